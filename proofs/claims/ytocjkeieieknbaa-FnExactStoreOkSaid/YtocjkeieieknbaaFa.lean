/- Bytes, names: what the functions on them come to. -/
import Derived.Test.YtocjkeieieknbaaShFacts
set_option linter.unusedVariables false
set_option linter.unusedSimpArgs false
set_option maxRecDepth 100000
namespace Go.Proofs.Ytocjkeieieknbaa
open Go.Sh
abbrev noGl : Nat → Option D := fun _ => none
abbrev dI (n : Int) : D := .v (.int .i64 n)
abbrev dB (b : Bool) : D := .v (.bool b)
abbrev dS (s : ByteArray) : D := .v (.string s)
abbrev dY (n : Int) : D := .v (.int .u8 n)
theorem wrap64 {n : Int} (h : -9223372036854775808 ≤ n) (h' : n ≤ 9223372036854775807) : IntKind.i64.wrap n = n := by rw [IntKind.wrap_i64]; omega
/-- All numbers below n. -/
def allTo (p : Nat → Bool) (n : Nat) : Bool := (List.range n).all p
theorem allTo_true {p : Nat → Bool} {n : Nat} (h : ∀ j, j < n → p j = true) : allTo p n = true := List.all_eq_true.2 fun j hj => h j (List.mem_range.1 hj)
theorem allTo_false {p : Nat → Bool} {n i : Nat} (hi : i < n) (h : p i = false) : allTo p n = false := by
  cases hb : allTo p n with
  | false => rfl
  | true => have := List.all_eq_true.1 hb i (List.mem_range.2 hi); rw [h] at this; cases this
theorem allTo_iff {p : Nat → Bool} {n : Nat} : allTo p n = true ↔ ∀ j, j < n → p j = true :=
  ⟨fun h j hj => List.all_eq_true.1 h j (List.mem_range.2 hj), allTo_true⟩
theorem next_all {p : Nat → Bool} {i : Nat} (hp : ∀ j, j < i → p j = true) (h : p i = true) : ∀ j, j < i + 1 → p j = true := fun j hj => by
  rcases Nat.lt_or_ge j i with h1 | h1
  · exact hp j h1
  · have : j = i := by omega
    subst this; exact h

theorem p_l1In (a b c : Int) : PCall Try.prog noGl 40 [dI a, dI b, dI c] (dB (decide (b ≤ a) && decide (a ≤ c))) := by
  refine PCall.by_ (md := []) Try.func40 rfl (by kernel_rfl) (n := 15) Try.ntmps40 (by simp) (by decide) rfl ?_
  simp
  refine BrT.dec (fun h => ?_) (fun h => ?_) <;> simp [h]

def letterB (n : Int) : Bool := (decide (97 ≤ n) && decide (n ≤ 122)) || (decide (65 ≤ n) && decide (n ≤ 90)) || decide (n = 95)
def figureB (n : Int) : Bool := decide (48 ≤ n) && decide (n ≤ 57)
theorem p_l1Letter (n : Int) : PCall Try.prog noGl 73 [dY n] (dB (letterB n)) := by
  refine PCall.by_ (md := []) Try.func73 rfl (by kernel_rfl) (n := 21) Try.ntmps73 (by simp) (by decide) rfl ?_
  simp
  repeat' first
    | (refine BrT.dec (fun h => ?_) (fun h => ?_) <;> simp [h])
  all_goals (unfold letterB; simp [*])
theorem p_l1Figure (n : Int) : PCall Try.prog noGl 74 [dY n] (dB (figureB n)) := by
  refine PCall.by_ (md := []) Try.func74 rfl (by kernel_rfl) (n := 9) Try.ntmps74 (by simp) (by decide) rfl ?_
  simp
  repeat' first
    | (refine BrT.dec (fun h => ?_) (fun h => ?_) <;> simp [h])
  all_goals (unfold figureB; simp [*])
theorem p_isFigure (n : Int) : PCall Try.prog noGl 84 [dY n] (dB (figureB n)) := by
  refine PCall.by_ (md := []) Try.func84 rfl (by kernel_rfl) (n := 9) Try.ntmps84 (by simp) (by decide) rfl ?_
  simp
  repeat' first
    | (refine BrT.dec (fun h => ?_) (fun h => ?_) <;> simp [h])
  all_goals (unfold figureB; simp [*])
theorem p_isWordByte (n : Int) : PCall Try.prog noGl 85 [dY n] (dB (letterB n || figureB n)) := by
  refine PCall.by_ (md := []) Try.func85 rfl (by kernel_rfl) (n := 25) Try.ntmps85 (by simp) (by decide) rfl ?_
  simp
  repeat' first
    | (refine BrT.dec (fun h => ?_) (fun h => ?_) <;> simp [h])
    | (refine CallT.p (p_isFigure _) (by simp) rfl ?_; simp)
  all_goals (unfold letterB; simp [*])

/-! ### names -/
def nameP (s : ByteArray) (i : Nat) : Bool := letterB (byteI s i) || (!decide (i = 0) && figureB (byteI s i))
def nameB (s : ByteArray) : Bool := allTo (nameP s) s.size && (decide (1 ≤ (s.size : Int)) && decide ((s.size : Int) ≤ 12))
set_option maxHeartbeats 1000000 in
theorem p_l1Name (s : ByteArray) (hs : s.size ≤ 4611686018427387904) : PCall Try.prog noGl 41 [dS s] (dB (nameB s)) := by
  refine PCall.by_ (md := []) Try.func41 rfl (by kernel_rfl) (n := 29) Try.ntmps41 (by simp) (by decide) rfl ?_
  simp
  refine LoopT.round (fun E S => ∃ i : Nat, i ≤ s.size ∧ E 0 = some (.d (dS s)) ∧ E 3 = some (.d (dI i)) ∧ (∀ j, j < i → nameP s j = true)) (fun E S => match E 3 with | some (.d (.v (.int _ i))) => s.size - i.toNat | _ => 0) ⟨0, by simp⟩ ?_
  rintro E S hk ⟨i, hi, h0, h3, hp⟩
  have hn : S.n = 29 := by simpa using hk.n
  have hg : S.gl = noGl := by simpa using hk.gl
  have w : IntKind.i64.wrap ((i : Int) + 1) = (i : Int) + 1 := wrap64 (by omega) (by omega)
  simp [h0, h3, hn]
  refine BrT.dec (fun h => ?_) (fun h => ?_)
  · have hi2 : i < s.size := by omega
    simp [h0, h3, hn, hi2]
    refine CallT.p (p_l1Letter _) (by simp [hg]) rfl ?_
    simp [h0, h3, hn, hi2]
    have bad : nameP s i = false → nameB s = false := fun h1 => by rw [nameB, allTo_false hi2 h1]; rfl
    refine BrT.mk (fun hl => ?_) (fun hl => ?_)
    · simp [h0, h3, hn, hl, w]
      exact ⟨⟨i + 1, by omega, rfl, next_all hp (by simp [nameP, hl])⟩, by omega⟩
    · simp [h0, h3, hn, hl]
      refine BrT.dec (fun hz => ?_) (fun hz => ?_)
      · have hq := bad (by subst hz; simp [nameP, hl])
        simp [h0, h3, hn, hl, hz, hq]
      · simp [h0, h3, hn, hl, hz, hi2]
        refine CallT.p (p_l1Figure _) (by simp [hg]) rfl ?_
        simp [h0, h3, hn, hl, hz]
        refine BrT.mk (fun hf => ?_) (fun hf => ?_)
        · simp [h0, h3, hn, hl, hz, hf, w]
          exact ⟨⟨i + 1, by omega, rfl, next_all hp (by simp [nameP, hl, hz, hf])⟩, by omega⟩
        · have hq := bad (by simp [nameP, hl, hz, hf])
          simp [h0, h3, hn, hl, hz, hf, hq]
  · simp [h0, h3, hn]
    have hi3 : i = s.size := by omega
    subst hi3
    refine CallT.p (p_l1In _ _ _) (by simp [hg]) rfl ?_
    simp [nameB, allTo_true hp, hn]

theorem nameB_short {s : ByteArray} (h : (s.size : Int) < 1) : nameB s = false := by
  have : ¬ (1 ≤ (s.size : Int)) := by omega
  simp [nameB, this]
theorem nameB_long {s : ByteArray} (h : 12 < (s.size : Int)) : nameB s = false := by
  have : ¬ ((s.size : Int) ≤ 12) := by omega
  simp [nameB, this]
theorem not_letter {n : Int} (h : figureB n = true) : letterB n = false := by
  simp only [figureB, letterB, Bool.and_eq_true, Bool.or_eq_false_iff, decide_eq_true_eq, Bool.and_eq_false_iff, decide_eq_false_iff_not] at *
  omega
set_option maxHeartbeats 1000000 in
theorem p_isName (s : ByteArray) (hs : s.size ≤ 4611686018427387904) : PCall Try.prog noGl 61 [dS s] (dB (nameB s)) := by
  refine PCall.by_ (md := []) Try.func61 rfl (by kernel_rfl) (n := 28) Try.ntmps61 (by simp) (by decide) rfl ?_
  simp
  refine BrT.dec (fun h => ?_) (fun h => ?_)
  · simp [h, nameB_short (s := s) (by omega)]
  have h1 : 0 < s.size := by omega
  simp [h]
  refine BrT.dec (fun h2 => ?_) (fun h2 => ?_)
  · simp [h, h2, nameB_long (s := s) (by omega)]
  simp [h, h2, h1]
  refine CallT.p (p_isFigure _) (by simp) rfl ?_
  simp [h, h2]
  refine BrT.mk (fun hf => ?_) (fun hf => ?_)
  · have : nameB s = false := by
      rw [nameB, allTo_false h1 (by simp [nameP, not_letter hf])]; rfl
    simp [h, h2, hf, this]
  simp [h, h2, hf]
  refine LoopT.round (fun E S => ∃ i : Nat, i ≤ s.size ∧ E 0 = some (.d (dS s)) ∧ E 18 = some (.d (dI s.size)) ∧ E 19 = some (.d (dI i)) ∧ (∀ j, j < i → nameP s j = true)) (fun E S => match E 19 with | some (.d (.v (.int _ i))) => s.size - i.toNat | _ => 0) ⟨0, by simp⟩ ?_
  rintro E S hk ⟨i, hi, h0, h18, h19, hp⟩
  have hn : S.n = 28 := by simpa using hk.n
  have hg : S.gl = noGl := by simpa using hk.gl
  have w : IntKind.i64.wrap ((i : Int) + 1) = (i : Int) + 1 := wrap64 (by omega) (by omega)
  simp [h0, h18, h19, hn]
  refine BrT.dec (fun h3 => ?_) (fun h3 => ?_)
  · have hi2 : i < s.size := by omega
    simp [h0, h18, h19, hn, hi2]
    have key : (letterB (byteI s i) || figureB (byteI s i)) = nameP s i := by
      by_cases hz : i = 0
      · subst hz; simp [nameP, hf]
      · simp [nameP, hz]
    have pw := p_isWordByte (byteI s i)
    rw [key] at pw
    refine CallT.p pw (by simp [hg]) rfl ?_
    simp [h0, h18, h19, hn]
    refine BrT.mk (fun hl => ?_) (fun hl => ?_)
    · simp [h0, h18, h19, hn, hl, w]
      exact ⟨⟨i + 1, by omega, rfl, next_all hp hl⟩, by omega⟩
    · have hq : nameB s = false := by rw [nameB, allTo_false hi2 hl]; rfl
      simp [h0, h18, h19, hn, hl, hq]
  · have hi3 : i = s.size := by omega
    subst hi3
    have c1 : (1 : Int) ≤ s.size := by omega
    have c2 : (s.size : Int) ≤ 12 := by omega
    have hq : nameB s = true := by simp [nameB, allTo_true hp]; omega
    simp [h0, h18, h19, hn, hq]
end Go.Proofs.Ytocjkeieieknbaa
