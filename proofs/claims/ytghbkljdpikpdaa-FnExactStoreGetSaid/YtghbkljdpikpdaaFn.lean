/- Nodes: copies, comparisons. -/
import Derived.Test.YtghbkljdpikpdaaFm
set_option linter.unusedVariables false
set_option linter.unusedSimpArgs false
set_option maxRecDepth 100000
namespace Go.Proofs.Ytghbkljdpikpdaa
open Go.Sh
variable {gl : Nat → Option D}
set_option maxHeartbeats 1000000 in
theorem p_toNode (n : Nod) (hn : Small n.val) : PCall Try.prog gl 34 [n.d] n.d := by
  refine PCall.by_ (md := []) Try.func34 rfl (by kernel_rfl) (n := 15) Try.ntmps34 (by simp) (by decide) rfl ?_
  simp [Nod.cells, cells_len]
  refine CallT.p (p_toValue n.val hn) rfl (by simp) ?_
  simp [Nod.cells, cells_len]

set_option maxHeartbeats 1000000 in
theorem p_eqNode (n : Nod) (hn : NodOk n) : PCall Try.prog gl 41 [n.d, n.d] (dB true) := by
  refine PCall.by_ (md := []) Try.func41 rfl (by kernel_rfl) (n := 21) Try.ntmps41 (by simp) (by decide) rfl ?_
  simp [Nod.cells, cells_len]
  refine CallT.p (p_eqValue n.val hn.2) rfl (by simp) ?_
  simp [Nod.cells, cells_len]

set_option maxHeartbeats 1000000 in
theorem p_eqNodeS (l : List Nod) (hl : l.length ≤ 4611686018427387904) (hok : ∀ n ∈ l, NodOk n) : PCall Try.prog gl 13 [nodsD l, nodsD l] (dB true) := by
  refine PCall.by_ (md := []) Try.func13 rfl (by kernel_rfl) (n := 27) Try.ntmps13 (by simp) (by decide) rfl ?_
  simp
  refine LoopT.round (fun E S => ∃ i : Nat, i ≤ l.length ∧ E 0 = some (.d (nodsD l)) ∧ E 1 = some (.d (nodsD l)) ∧ E 5 = some (.d (dI i))) (upTo 5 l.length) ⟨0, by simp⟩ ?_
  rintro E S hk ⟨i, hi, h0, h1, h5⟩
  have hn : S.n = 27 := by simpa using hk.n
  have hg : S.gl = gl := by simpa using hk.gl
  have w : IntKind.i64.wrap ((i : Int) + 1) = (i : Int) + 1 := wrap64 (by omega) (by omega)
  simp [h0, h1, h5, hn]
  refine BrT.dec (fun h => ?_) (fun h => ?_)
  · have hi2 : i < l.length := by omega
    have hlen := nods_len l
    have hfit : i * 7 + 7 ≤ l.length * 7 := by omega
    simp [h0, h1, h5, hn, hi2, hlen, hfit, nods_at]
    refine ⟨DrawT.mk (by kernel_rfl), ?_⟩
    refine CallT.p (p_eqNode l[i] (hok _ (List.getElem_mem hi2))) (by first | rfl | simp [hg]) rfl ?_
    simp [h0, h1, h5, hn, w]
    exact ⟨⟨i + 1, by omega, rfl⟩, upTo_lt h5 (by simp) hi2⟩
  · simp [h0, h1, h5, hn]

abbrev zN : List SV := [.d (dI 0), .d (dS ⟨#[]⟩), .d (dI 0), .d (dI 0), .d (dS ⟨#[]⟩), .fl [] 0, .fl [] 0]
abbrev sN (n : Nod) : List SV := n.cells.map .d
theorem sN_len (n : Nod) : (sN n).length = 7 := by rw [List.length_map, ncells_len]
theorem sN_row (l : List Nod) : l.flatMap sN = (nodsCells l).map .d := by
  unfold nodsCells
  induction l with
  | nil => rfl
  | cons v r ih => simp [ih]
theorem madeS_zN (n : Nat) : madeS zN 7 n = (List.replicate n zN).flatten := madeS_row zN n
set_option maxHeartbeats 1000000 in
theorem p_toNodeS (l : List Nod) (hl : l.length ≤ 1048576) (hs : ∀ n ∈ l, Small n.val) : PCall Try.prog gl 10 [nodsD l] (nodsD l) := by
  refine PCall.by_ (md := []) Try.func10 rfl (by kernel_rfl) (n := 23) Try.ntmps10 (by simp) (by decide) rfl ?_
  simp
  refine ⟨by omega, ?_⟩
  refine LoopT.round (fun E S => ∃ i : Nat, i ≤ l.length ∧ E 0 = some (.d (nodsD l)) ∧ E 3 = some (.os 3 0 l.length) ∧ E 4 = some (.d (dI i)) ∧ S.B 3 = some (filled sN zN l i)) (upTo 4 l.length) ⟨0, by simp [filled_none, madeS_zN]⟩ ?_
  rintro E S hk ⟨i, hi, h0, h3, h4, hB⟩
  have hn : S.n = 23 := by simpa using hk.n
  have hg : S.gl = gl := by simpa using hk.gl
  have w : IntKind.i64.wrap ((i : Int) + 1) = (i : Int) + 1 := wrap64 (by omega) (by omega)
  simp [h0, h3, h4, hn]
  refine BrT.dec (fun h => ?_) (fun h => ?_)
  · have hi2 : i < l.length := by omega
    have hlen := nods_len l
    have hfit : i * 7 + 7 ≤ l.length * 7 := by omega
    have hflen := filled_len (enc := sN) (z := zN) sN_len rfl l hi
    have hnext := filled_next (enc := sN) (z := zN) sN_len rfl l hi2
    simp [h0, h3, h4, hn, hi2, hlen, hfit, nods_at]
    refine CallT.p (p_toNode l[i] (hs _ (List.getElem_mem hi2))) (by first | rfl | simp [hg]) rfl ?_
    simp [h0, h3, h4, hn, hi2, hB, w, hflen, hfit, ncells_len]
    refine ⟨⟨i + 1, by omega, rfl, ?_⟩, upTo_lt h4 (by simp) hi2⟩
    rw [← hnext]
    simp
  · have hi3 : i = l.length := by omega
    subst hi3
    rw [filled_all, sN_row] at hB
    simp [h0, h3, h4, hn, hB]
end Go.Proofs.Ytghbkljdpikpdaa
