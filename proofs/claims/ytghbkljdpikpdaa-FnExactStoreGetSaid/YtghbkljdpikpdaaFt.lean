/- The laws' own functions on lists of texts. -/
import Derived.Test.YtghbkljdpikpdaaBa
set_option linter.unusedVariables false
set_option linter.unusedSimpArgs false
set_option maxRecDepth 100000
namespace Go.Proofs.Ytghbkljdpikpdaa
open Go.Sh
variable {gl : Nat → Option D}
/-! ### the laws' own: sizes, copies, comparisons -/
def szGo : List ByteArray → Int → Int
  | [], r => r
  | s :: t, r => if r - s.size < 0 then -1 else szGo t (r - s.size)
def szNames (l : List ByteArray) (left : Int) : Int := if left - l.length < 0 then -1 else szGo l (left - l.length)

set_option maxHeartbeats 1000000 in
theorem p_szStringS (l : List ByteArray) (left : Int) (hl : NamesOk l) (h0 : 0 ≤ left) (hb : left ≤ 4611686018427387904) : PCall Try.prog gl 48 [namesD l, dI left] (dI (szNames l left)) := by
  refine PCall.by_ (md := []) Try.func48 rfl (by kernel_rfl) (n := 28) Try.ntmps48 (by simp) (by decide) rfl ?_
  have hlen := hl.1
  have w0 : IntKind.i64.wrap (left - l.length) = left - l.length := wrap64 (by omega) (by omega)
  simp [w0]
  refine BrT.dec (fun h => ?_) (fun h => ?_)
  · have : szNames l left = -1 := if_pos (by omega)
    simp [w0, h, this]
  have hsz : szNames l left = szGo l (left - l.length) := if_neg (by omega)
  simp [w0, h]
  refine LoopT.round (fun E S => ∃ (i : Nat) (r : Int), i ≤ l.length ∧ 0 ≤ r ∧ r ≤ 4611686018427387904 ∧ E 0 = some (.d (namesD l)) ∧ E 1 = some (.d (dI r)) ∧ E 5 = some (.d (dI i)) ∧ szGo (l.drop i) r = szNames l left) (upTo 5 l.length) ⟨0, left - l.length, by simp [hsz]; omega⟩ ?_
  rintro E S hk ⟨i, r, hi, hr0, hr1, h0, h1, h5, hp⟩
  have hn : S.n = 28 := by simpa using hk.n
  have w : IntKind.i64.wrap ((i : Int) + 1) = (i : Int) + 1 := wrap64 (by omega) (by omega)
  simp [h0, h1, h5, hn]
  refine BrT.dec (fun h => ?_) (fun h => ?_)
  · have hi2 : i < l.length := by omega
    have hs := hl.2 l[i] (List.getElem_mem hi2)
    have w2 : IntKind.i64.wrap (r - l[i].size) = r - l[i].size := wrap64 (by omega) (by omega)
    have hd : szGo (l.drop i) r = if r - l[i].size < 0 then -1 else szGo (l.drop (i + 1)) (r - l[i].size) := by
      rw [List.drop_eq_getElem_cons hi2]; rfl
    simp [h0, h1, h5, hn, hi2, w2]
    refine BrT.dec (fun he => ?_) (fun he => ?_)
    · rw [hd, if_pos (by omega)] at hp
      simp [h0, h1, h5, hn, he, hp]
    · rw [hd, if_neg (by omega)] at hp
      simp [h0, h1, h5, hn, w, he, w2]
      exact ⟨⟨i + 1, by omega, r - l[i].size, by omega, by omega, rfl, by omega, hp⟩, upTo_lt h5 (by simp) hi2⟩
  · rw [List.drop_eq_nil_of_le (by omega)] at hp
    simp [h0, h1, h5, hn, ← hp, szGo]
set_option maxHeartbeats 1000000 in
theorem p_toStringS (l : List ByteArray) (hl : l.length ≤ 1048576) : PCall Try.prog gl 51 [namesD l] (namesD l) := by
  refine PCall.by_ (md := []) Try.func51 rfl (by kernel_rfl) (n := 22) Try.ntmps51 (by simp) (by decide) rfl ?_
  simp
  refine ⟨by omega, ?_⟩
  refine LoopT.round (fun E S => ∃ i : Nat, i ≤ l.length ∧ E 0 = some (.d (namesD l)) ∧ E 3 = some (.os 3 0 l.length) ∧ E 4 = some (.d (dI i)) ∧ S.B 3 = some (filled sS [.d (dS ⟨#[]⟩)] l i)) (upTo 4 l.length) ⟨0, by simp [filled_none]⟩ ?_
  rintro E S hk ⟨i, hi, h0, h3, h4, hB⟩
  have hn : S.n = 22 := by simpa using hk.n
  have w : IntKind.i64.wrap ((i : Int) + 1) = (i : Int) + 1 := wrap64 (by omega) (by omega)
  simp [h0, h3, h4, hn]
  refine BrT.dec (fun h => ?_) (fun h => ?_)
  · have hi2 : i < l.length := by omega
    have hlen := filled_len (enc := sS) (z := [.d (dS ⟨#[]⟩)]) (fun _ => rfl) rfl l hi
    have hnext := filled_next (enc := sS) (z := [.d (dS ⟨#[]⟩)]) (fun _ => rfl) rfl l hi2
    simp only [Nat.mul_one] at hlen hnext
    simp [h0, h3, h4, hn, hi2, hB, w, hlen]
    refine ⟨by omega, ⟨i + 1, by omega, rfl, ?_⟩, upTo_lt h4 (by simp) hi2⟩
    rw [← hnext]
    simp
  · have hi3 : i = l.length := by omega
    subst hi3
    rw [filled_all, sS_row] at hB
    simp [h0, h3, h4, hn, hB]
set_option maxHeartbeats 1000000 in
theorem p_eqStringS (l : List ByteArray) (hl : l.length ≤ 4611686018427387904) : PCall Try.prog gl 40 [namesD l, namesD l] (dB true) := by
  refine PCall.by_ (md := []) Try.func40 rfl (by kernel_rfl) (n := 26) Try.ntmps40 (by simp) (by decide) rfl ?_
  simp
  refine LoopT.round (fun E S => ∃ i : Nat, i ≤ l.length ∧ E 0 = some (.d (namesD l)) ∧ E 1 = some (.d (namesD l)) ∧ E 5 = some (.d (dI i))) (upTo 5 l.length) ⟨0, by simp⟩ ?_
  rintro E S hk ⟨i, hi, h0, h1, h5⟩
  have hn : S.n = 26 := by simpa using hk.n
  have w : IntKind.i64.wrap ((i : Int) + 1) = (i : Int) + 1 := wrap64 (by omega) (by omega)
  simp [h0, h1, h5, hn]
  refine BrT.dec (fun h => ?_) (fun h => ?_)
  · have hi2 : i < l.length := by omega
    simp [h0, h1, h5, hn, hi2, w]
    exact ⟨DrawT.mk (by kernel_rfl), ⟨i + 1, by omega, rfl⟩, upTo_lt h5 (by simp) hi2⟩
  · simp [h0, h1, h5, hn]

end Go.Proofs.Ytghbkljdpikpdaa
