/- Names, none twice; lists of texts compared. -/
import Derived.Test.YtghbkljdpikpdaaFb
set_option linter.unusedVariables false
set_option linter.unusedSimpArgs false
set_option maxRecDepth 100000
namespace Go.Proofs.Ytghbkljdpikpdaa
open Go.Sh
variable {gl : Nat → Option D}

/-- Text i of a list. -/
def nm (l : List ByteArray) (i : Nat) : ByteArray := l.getD i ⟨#[]⟩
theorem nm_at {l : List ByteArray} {i : Nat} (h : i < l.length) : l[i] = nm l i := by
  unfold nm
  rw [List.getD_eq_getElem?_getD, List.getElem?_eq_getElem h, Option.getD_some]
def onceP (l : List ByteArray) (i : Nat) : Bool := nameB (nm l i) && allTo (fun k => !decide (nm l k = nm l i)) i
def onceB (l : List ByteArray) : Bool := allTo (onceP l) l.length
theorem nm_size {l : List ByteArray} (hl : NamesOk l) {i : Nat} (h : i < l.length) : (nm l i).size ≤ 4611686018427387904 := by
  rw [← nm_at h]; exact hl.2 _ (List.getElem_mem h)

set_option maxHeartbeats 1000000 in
theorem p_l1Once (l : List ByteArray) (hl : NamesOk l) : PCall Try.prog gl 93 [namesD l] (dB (onceB l)) := by
  refine PCall.by_ (md := []) Try.func93 rfl (by kernel_rfl) (n := 31) Try.ntmps93 (by simp) (by decide) rfl ?_
  have hlen := hl.1
  simp
  refine LoopT.round (fun E S => ∃ i : Nat, i ≤ l.length ∧ E 0 = some (.d (namesD l)) ∧ E 3 = some (.d (dI i)) ∧ (∀ j, j < i → onceP l j = true)) (upTo 3 l.length) ⟨0, by simp⟩ ?_
  rintro E S hk ⟨i, hi, h0, h3, hp⟩
  have hn : S.n = 31 := by simpa using hk.n
  have hg : S.gl = gl := by simpa using hk.gl
  have w : IntKind.i64.wrap ((i : Int) + 1) = (i : Int) + 1 := wrap64 (by omega) (by omega)
  simp [h0, h3, hn]
  refine BrT.dec (fun h => ?_) (fun h => ?_)
  · have hi2 : i < l.length := by omega
    have bad : onceP l i = false → onceB l = false := fun h => allTo_false hi2 h
    simp [h0, h3, hn, hi2, nm_at]
    refine CallT.p (p_l1Name _ (nm_size hl hi2)) (by first | rfl | simp [hg]) rfl ?_
    simp [h0, h3, hn]
    refine BrT.mk (fun hb => ?_) (fun hb => ?_)
    · simp [h0, h3, hn, hb]
      refine LoopT.round (fun E S => ∃ k : Nat, k ≤ i ∧ E 0 = some (.d (namesD l)) ∧ E 3 = some (.d (dI i)) ∧ E 4 = some (.d (dI k)) ∧ (∀ j, j < k → (!decide (nm l j = nm l i)) = true)) (upTo 4 i) ⟨0, by simp [h0, h3]⟩ ?_
      rintro E2 S2 hk2 ⟨k, hki, g0, g3, g4, gp⟩
      have gn : S2.n = 31 := by have := hk2.n; simpa [hn] using this
      have w2 : IntKind.i64.wrap ((k : Int) + 1) = (k : Int) + 1 := wrap64 (by omega) (by omega)
      simp [g0, g3, g4, gn]
      refine BrT.dec (fun h => ?_) (fun h => ?_)
      · have hk3 : k < i := by omega
        have hk4 : k < l.length := by omega
        simp [g0, g3, g4, gn, hi2, hk4, nm_at]
        refine ⟨DrawT.mk (by kernel_rfl), ?_⟩
        refine BrT.dec (fun he => ?_) (fun he => ?_)
        · have := bad (by unfold onceP; rw [allTo_false hk3 (by simp [he])]; simp)
          simp [g0, g3, g4, gn, he, this]
        · simp [g0, g3, g4, gn, he, w2]
          refine ⟨⟨k + 1, by omega, rfl, fun j hj => ?_⟩, upTo_lt g4 (by simp) hk3⟩
          have := next_all gp (by simp [he]) j hj
          simpa using this
      · have hk3 : k = i := by omega
        subst hk3
        simp [g0, g3, g4, gn, w]
        refine ⟨⟨k + 1, by omega, rfl, next_all hp (by unfold onceP; rw [hb, allTo_true gp]; rfl)⟩, ?_⟩
        exact upTo_lt h3 (by simp) hi2
    · have := bad (by simp [onceP, hb])
      simp [h0, h3, hn, hb, this]
  · have hi3 : i = l.length := by omega
    subst hi3
    simp [h0, h3, hn, onceB, allTo_true hp]

theorem mem_take {l : List ByteArray} {i : Nat} (hi : i < l.length) : memB (nm l i) (l.take i) = !allTo (fun k => !decide (nm l k = nm l i)) i := by
  cases hb : allTo (fun k => !decide (nm l k = nm l i)) i with
  | true =>
    cases hm : memB (nm l i) (l.take i) with
    | false => rfl
    | true =>
      obtain ⟨k, hk, he⟩ := List.getElem_of_mem (memB_iff.1 hm)
      have hk2 : k < i := by simp at hk; omega
      have h2 := allTo_iff.1 hb k hk2
      rw [List.getElem_take, nm_at (by omega)] at he
      simp [he] at h2
  | false =>
    cases hm : memB (nm l i) (l.take i) with
    | true => rfl
    | false =>
      have : allTo (fun k => !decide (nm l k = nm l i)) i = true := allTo_true fun k hk => by
        cases hd : decide (nm l k = nm l i) with
        | false => rfl
        | true =>
          have he := of_decide_eq_true hd
          have hmem : nm l i ∈ l.take i := by
            rw [← he, ← nm_at (by omega : k < l.length)]
            exact List.mem_take_iff_getElem.2 ⟨k, by omega, rfl⟩
          rw [memB_iff.2 hmem] at hm; cases hm
      rw [this] at hb; cases hb

set_option maxHeartbeats 1000000 in
theorem p_namesOnce (l : List ByteArray) (hl : NamesOk l) : PCall Try.prog gl 111 [namesD l] (dB (onceB l)) := by
  refine PCall.by_ (md := []) Try.func111 rfl (by kernel_rfl) (n := 23) Try.ntmps111 (by simp) (by decide) rfl ?_
  have hlen := hl.1
  simp
  refine LoopT.round (fun E S => ∃ i : Nat, i ≤ l.length ∧ E 0 = some (.d (namesD l)) ∧ E 5 = some (.d (namesD l)) ∧ E 6 = some (.d (dI l.length)) ∧ E 7 = some (.d (dI i)) ∧ (∀ j, j < i → onceP l j = true)) (upTo 7 l.length) ⟨0, by simp⟩ ?_
  rintro E S hk ⟨i, hi, h0, h5, h6, h7, hp⟩
  have hn : S.n = 23 := by simpa using hk.n
  have hg : S.gl = gl := by simpa using hk.gl
  have w : IntKind.i64.wrap ((i : Int) + 1) = (i : Int) + 1 := wrap64 (by omega) (by omega)
  simp [h0, h5, h6, h7, hn]
  refine BrT.dec (fun h => ?_) (fun h => ?_)
  · have hi2 : i < l.length := by omega
    have bad : onceP l i = false → onceB l = false := fun h => allTo_false hi2 h
    simp [h0, h5, h6, h7, hn, hi2, nm_at]
    refine CallT.p (p_isName _ (nm_size hl hi2)) (by first | rfl | simp [hg]) rfl ?_
    simp [h0, h5, h6, h7, hn]
    refine BrT.mk (fun hb => ?_) (fun hb => ?_)
    · simp [h0, h5, h6, h7, hn, hb]
      refine ⟨by omega, ?_⟩
      have hc := p_Contains (gl := gl) (l.take i) (nm l i) (by simp; omega)
      rw [mem_take hi2] at hc
      refine CallT.p hc (by first | rfl | simp [hg]) (by simp; omega) ?_
      simp [h0, h5, h6, h7, hn, hb]
      refine BrT.mk (fun hd => ?_) (fun hd => ?_)
      · simp [h0, h5, h6, h7, hn, hb, hd, w]
        exact ⟨⟨i + 1, by omega, rfl, next_all hp (by unfold onceP; rw [hb, hd]; rfl)⟩, upTo_lt h7 (by simp) hi2⟩
      · have := bad (by unfold onceP; rw [hd]; simp)
        simp [h0, h5, h6, h7, hn, hb, hd, this]
    · have := bad (by simp [onceP, hb])
      simp [h0, h5, h6, h7, hn, hb, this]
  · have hi3 : i = l.length := by omega
    subst hi3
    simp [h0, h5, h6, h7, hn, onceB, allTo_true hp]
end Go.Proofs.Ytghbkljdpikpdaa
