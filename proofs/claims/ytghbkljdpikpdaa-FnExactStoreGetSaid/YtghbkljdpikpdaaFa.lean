/- Bytes, names: what the functions on them come to. -/
import Derived.Test.YtghbkljdpikpdaaFt
set_option linter.unusedVariables false
set_option linter.unusedSimpArgs false
set_option maxRecDepth 100000
namespace Go.Proofs.Ytghbkljdpikpdaa
open Go.Sh
variable {gl : Nat → Option D}
theorem p_l1In (a b c : Int) : PCall Try.prog gl 64 [dI a, dI b, dI c] (dB (decide (b ≤ a) && decide (a ≤ c))) := by
  refine PCall.by_ (md := []) Try.func64 rfl (by kernel_rfl) (n := 15) Try.ntmps64 (by simp) (by decide) rfl ?_
  simp
  refine BrT.dec (fun h => ?_) (fun h => ?_) <;> simp [h]

def letterB (n : Int) : Bool := (decide (97 ≤ n) && decide (n ≤ 122)) || (decide (65 ≤ n) && decide (n ≤ 90)) || decide (n = 95)
def figureB (n : Int) : Bool := decide (48 ≤ n) && decide (n ≤ 57)
theorem p_l1Letter (n : Int) : PCall Try.prog gl 90 [dY n] (dB (letterB n)) := by
  refine PCall.by_ (md := []) Try.func90 rfl (by kernel_rfl) (n := 21) Try.ntmps90 (by simp) (by decide) rfl ?_
  simp
  repeat' first
    | (refine BrT.dec (fun h => ?_) (fun h => ?_) <;> simp [h])
  all_goals (unfold letterB; simp [*])
theorem p_l1Figure (n : Int) : PCall Try.prog gl 91 [dY n] (dB (figureB n)) := by
  refine PCall.by_ (md := []) Try.func91 rfl (by kernel_rfl) (n := 9) Try.ntmps91 (by simp) (by decide) rfl ?_
  simp
  repeat' first
    | (refine BrT.dec (fun h => ?_) (fun h => ?_) <;> simp [h])
  all_goals (unfold figureB; simp [*])
theorem p_isFigure (n : Int) : PCall Try.prog gl 81 [dY n] (dB (figureB n)) := by
  refine PCall.by_ (md := []) Try.func81 rfl (by kernel_rfl) (n := 9) Try.ntmps81 (by simp) (by decide) rfl ?_
  simp
  repeat' first
    | (refine BrT.dec (fun h => ?_) (fun h => ?_) <;> simp [h])
  all_goals (unfold figureB; simp [*])
theorem p_isWordByte (n : Int) : PCall Try.prog gl 82 [dY n] (dB (letterB n || figureB n)) := by
  refine PCall.by_ (md := []) Try.func82 rfl (by kernel_rfl) (n := 25) Try.ntmps82 (by simp) (by decide) rfl ?_
  simp
  repeat' first
    | (refine BrT.dec (fun h => ?_) (fun h => ?_) <;> simp [h])
    | (refine CallT.p (p_isFigure _) rfl rfl ?_; simp)
  all_goals (unfold letterB; simp [*])

/-! ### names -/
def nameP (s : ByteArray) (i : Nat) : Bool := letterB (byteI s i) || (!decide (i = 0) && figureB (byteI s i))
def nameB (s : ByteArray) : Bool := allTo (nameP s) s.size && (decide (1 ≤ (s.size : Int)) && decide ((s.size : Int) ≤ 12))
set_option maxHeartbeats 1000000 in
theorem p_l1Name (s : ByteArray) (hs : s.size ≤ 4611686018427387904) : PCall Try.prog gl 65 [dS s] (dB (nameB s)) := by
  refine PCall.by_ (md := []) Try.func65 rfl (by kernel_rfl) (n := 29) Try.ntmps65 (by simp) (by decide) rfl ?_
  simp
  refine LoopT.round (fun E S => ∃ i : Nat, i ≤ s.size ∧ E 0 = some (.d (dS s)) ∧ E 3 = some (.d (dI i)) ∧ (∀ j, j < i → nameP s j = true)) (fun E S => match E 3 with | some (.d (.v (.int _ i))) => s.size - i.toNat | _ => 0) ⟨0, by simp⟩ ?_
  rintro E S hk ⟨i, hi, h0, h3, hp⟩
  have hn : S.n = 29 := by simpa using hk.n
  have hg : S.gl = gl := by simpa using hk.gl
  have w : IntKind.i64.wrap ((i : Int) + 1) = (i : Int) + 1 := wrap64 (by omega) (by omega)
  simp [h0, h3, hn]
  refine BrT.dec (fun h => ?_) (fun h => ?_)
  · have hi2 : i < s.size := by omega
    simp [h0, h3, hn, hi2]
    refine CallT.p (p_l1Letter _) (by first | rfl | simp [hg]) rfl ?_
    simp [h0, h3, hn, hi2]
    have bad : nameP s i = false → nameB s = false := fun h1 => by rw [nameB, allTo_false hi2 h1]; rfl
    refine BrT.mk (fun hl => ?_) (fun hl => ?_)
    · simp [h0, h3, hn, hl, w]
      exact ⟨⟨i + 1, by omega, rfl, next_all hp (by simp [nameP, hl])⟩, by omega⟩
    · simp [h0, h3, hn, hl]
      refine BrT.dec (fun hz => ?_) (fun hz => ?_)
      · have hq := bad (by subst hz; simp [nameP, hl])
        simp [h0, h3, hn, hl, hz, hq]
      · simp [h0, h3, hn, hl, hz, hi2]
        refine CallT.p (p_l1Figure _) (by first | rfl | simp [hg]) rfl ?_
        simp [h0, h3, hn, hl, hz]
        refine BrT.mk (fun hf => ?_) (fun hf => ?_)
        · simp [h0, h3, hn, hl, hz, hf, w]
          exact ⟨⟨i + 1, by omega, rfl, next_all hp (by simp [nameP, hl, hz, hf])⟩, by omega⟩
        · have hq := bad (by simp [nameP, hl, hz, hf])
          simp [h0, h3, hn, hl, hz, hf, hq]
  · simp [h0, h3, hn]
    have hi3 : i = s.size := by omega
    subst hi3
    refine CallT.p (p_l1In _ _ _) (by first | rfl | simp [hg]) rfl ?_
    simp [nameB, allTo_true hp, hn]

theorem nameB_short {s : ByteArray} (h : (s.size : Int) < 1) : nameB s = false := by
  have : ¬ (1 ≤ (s.size : Int)) := by omega
  simp [nameB, this]
theorem nameB_long {s : ByteArray} (h : 12 < (s.size : Int)) : nameB s = false := by
  have : ¬ ((s.size : Int) ≤ 12) := by omega
  simp [nameB, this]
theorem not_letter {n : Int} (h : figureB n = true) : letterB n = false := by
  simp only [figureB, letterB, Bool.and_eq_true, Bool.or_eq_false_iff, decide_eq_true_eq, Bool.and_eq_false_iff, decide_eq_false_iff_not] at *
  omega
set_option maxHeartbeats 1000000 in
theorem p_isName (s : ByteArray) (hs : s.size ≤ 4611686018427387904) : PCall Try.prog gl 54 [dS s] (dB (nameB s)) := by
  refine PCall.by_ (md := []) Try.func54 rfl (by kernel_rfl) (n := 28) Try.ntmps54 (by simp) (by decide) rfl ?_
  simp
  refine BrT.dec (fun h => ?_) (fun h => ?_)
  · simp [h, nameB_short (s := s) (by omega)]
  have h1 : 0 < s.size := by omega
  simp [h]
  refine BrT.dec (fun h2 => ?_) (fun h2 => ?_)
  · simp [h, h2, nameB_long (s := s) (by omega)]
  simp [h, h2, h1]
  refine CallT.p (p_isFigure _) rfl rfl ?_
  simp [h, h2]
  refine BrT.mk (fun hf => ?_) (fun hf => ?_)
  · have : nameB s = false := by
      rw [nameB, allTo_false h1 (by simp [nameP, not_letter hf])]; rfl
    simp [h, h2, hf, this]
  simp [h, h2, hf]
  refine LoopT.round (fun E S => ∃ i : Nat, i ≤ s.size ∧ E 0 = some (.d (dS s)) ∧ E 18 = some (.d (dI s.size)) ∧ E 19 = some (.d (dI i)) ∧ (∀ j, j < i → nameP s j = true)) (fun E S => match E 19 with | some (.d (.v (.int _ i))) => s.size - i.toNat | _ => 0) ⟨0, by simp⟩ ?_
  rintro E S hk ⟨i, hi, h0, h18, h19, hp⟩
  have hn : S.n = 28 := by simpa using hk.n
  have hg : S.gl = gl := by simpa using hk.gl
  have w : IntKind.i64.wrap ((i : Int) + 1) = (i : Int) + 1 := wrap64 (by omega) (by omega)
  simp [h0, h18, h19, hn]
  refine BrT.dec (fun h3 => ?_) (fun h3 => ?_)
  · have hi2 : i < s.size := by omega
    simp [h0, h18, h19, hn, hi2]
    have key : (letterB (byteI s i) || figureB (byteI s i)) = nameP s i := by
      by_cases hz : i = 0
      · subst hz; simp [nameP, hf]
      · simp [nameP, hz]
    have pw := p_isWordByte (gl := gl) (byteI s i)
    rw [key] at pw
    refine CallT.p pw (by first | rfl | simp [hg]) rfl ?_
    simp [h0, h18, h19, hn]
    refine BrT.mk (fun hl => ?_) (fun hl => ?_)
    · simp [h0, h18, h19, hn, hl, w]
      exact ⟨⟨i + 1, by omega, rfl, next_all hp hl⟩, by omega⟩
    · have hq : nameB s = false := by rw [nameB, allTo_false hi2 hl]; rfl
      simp [h0, h18, h19, hn, hl, hq]
  · have hi3 : i = s.size := by omega
    subst hi3
    have c1 : (1 : Int) ≤ s.size := by omega
    have c2 : (s.size : Int) ≤ 12 := by omega
    have hq : nameB s = true := by simp [nameB, allTo_true hp]; omega
    simp [h0, h18, h19, hn, hq]
end Go.Proofs.Ytghbkljdpikpdaa
