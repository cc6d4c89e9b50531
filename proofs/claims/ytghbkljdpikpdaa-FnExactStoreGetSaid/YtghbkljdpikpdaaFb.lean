/- Lists of texts: what the functions on them come to. -/
import Derived.Test.YtghbkljdpikpdaaFa
set_option linter.unusedVariables false
set_option linter.unusedSimpArgs false
set_option maxRecDepth 100000
namespace Go.Proofs.Ytghbkljdpikpdaa
open Go.Sh
variable {gl : Nat → Option D}
def idxI (x : ByteArray) (l : List ByteArray) : Int := if l.findIdx (fun y => decide (x = y)) < l.length then (l.findIdx (fun y => decide (x = y)) : Int) else -1
theorem idxI_found {x : ByteArray} {l : List ByteArray} {i : Nat} (hi : i < l.length) (h : ∀ j (hj : j < l.length), j < i → x ≠ l[j]) (he : x = l[i]) : idxI x l = i := by
  have e : l.findIdx (fun y => decide (x = y)) = i := by
    rw [List.findIdx_eq hi]
    exact ⟨by simp [he], fun j hj => by simpa using h j (by omega) hj⟩
  unfold idxI
  rw [e, if_pos hi]
theorem idxI_none {x : ByteArray} {l : List ByteArray} (h : ∀ j (hj : j < l.length), x ≠ l[j]) : idxI x l = -1 := by
  unfold idxI
  rw [if_neg]
  intro hlt
  have := List.findIdx_getElem (w := hlt)
  simp at this
  exact h _ hlt this
/-- Is a text among texts? -/
def memB (x : ByteArray) (l : List ByteArray) : Bool := l.any fun y => decide (x = y)
theorem memB_iff {x : ByteArray} {l : List ByteArray} : memB x l = true ↔ x ∈ l := by
  simp [memB]
theorem idxI_mem {x : ByteArray} {l : List ByteArray} : decide (0 ≤ idxI x l) = memB x l := by
  by_cases h : x ∈ l
  · have hlt : l.findIdx (fun y => decide (x = y)) < l.length := List.findIdx_lt_length_of_exists ⟨x, h, by simp⟩
    rw [memB_iff.2 h]
    unfold idxI
    rw [if_pos hlt]
    simp
  · have : idxI x l = -1 := idxI_none fun j hj e => h (e ▸ List.getElem_mem hj)
    have hb : memB x l = false := by
      cases hb : memB x l with
      | false => rfl
      | true => exact absurd (memB_iff.1 hb) h
    rw [this, hb]
    simp

set_option maxHeartbeats 1000000 in
theorem p_Index (l : List ByteArray) (x : ByteArray) (hl : l.length ≤ 4611686018427387904) : PCall Try.prog gl 84 [namesD l, dS x] (dI (idxI x l)) := by
  refine PCall.by_ (md := []) Try.func84 rfl (by kernel_rfl) (n := 19) Try.ntmps84 (by simp) (by decide) rfl ?_
  simp
  refine LoopT.round (fun E S => ∃ i : Nat, i ≤ l.length ∧ E 0 = some (.d (namesD l)) ∧ E 1 = some (.d (dS x)) ∧ E 7 = some (.d (dI l.length)) ∧ E 8 = some (.d (dI i)) ∧ (∀ j (hj : j < l.length), j < i → x ≠ l[j])) (upTo 8 l.length) ⟨0, by simp⟩ ?_
  rintro E S hk ⟨i, hi, h0, h1, h7, h8, hp⟩
  have hn : S.n = 19 := by simpa using hk.n
  have w : IntKind.i64.wrap ((i : Int) + 1) = (i : Int) + 1 := wrap64 (by omega) (by omega)
  simp [h0, h1, h7, h8, hn]
  refine BrT.dec (fun h => ?_) (fun h => ?_)
  · have hi2 : i < l.length := by omega
    simp [h0, h1, h7, h8, hn, hi2]
    refine BrT.dec (fun he => ?_) (fun he => ?_)
    · simp [h0, h1, h7, h8, hn, idxI_found hi2 hp he]
    · simp [h0, h1, h7, h8, hn, w]
      refine ⟨⟨i + 1, by omega, rfl, fun j hj hji => ?_⟩, upTo_lt h8 (by simp) hi2⟩
      rcases Nat.lt_or_ge j i with c | c
      · exact hp j hj c
      · have : j = i := by omega
        subst this; exact he
  · have : idxI x l = -1 := idxI_none fun j hj => hp j hj (by omega)
    simp [h0, h1, h7, h8, hn, this]

theorem p_Contains (l : List ByteArray) (x : ByteArray) (hl : l.length ≤ 4611686018427387904) : PCall Try.prog gl 134 [namesD l, dS x] (dB (memB x l)) := by
  refine PCall.by_ (md := []) Try.func134 rfl (by kernel_rfl) (n := 9) Try.ntmps134 (by simp) (by decide) rfl ?_
  simp
  refine CallT.p (p_Index l x hl) rfl rfl ?_
  simp
  rw [← idxI_mem]

end Go.Proofs.Ytghbkljdpikpdaa
