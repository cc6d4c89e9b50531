/- Copies of values. -/
import Derived.Test.YtghbkljdpikpdaaFk
set_option linter.unusedVariables false
set_option linter.unusedSimpArgs false
set_option maxRecDepth 100000
namespace Go.Proofs.Ytghbkljdpikpdaa
open Go.Sh
variable {gl : Nat → Option D}
/-- Not longer than the laws let in. -/
inductive Small : Val → Prop
  | mk {k n : Int} {t : ByteArray} {l : List Val} {ns : List ByteArray} (ht : t.size ≤ 1048576) (hn : ns.length ≤ 1048576) (hns : ∀ s ∈ ns, s.size ≤ 1048576) (hl : l.length ≤ 1048576) (h : ∀ v ∈ l, Small v) : Small (.mk k n t l ns)

theorem szGo_small : ∀ (l : List ByteArray) (r : Int), r ≤ 1048576 → 0 ≤ szGo l r → ∀ s ∈ l, s.size ≤ 1048576
  | [], r, _, _, s, hs => by simp at hs
  | x :: t, r, hr, h, s, hs => by
    simp only [szGo] at h
    split at h
    · omega
    · rename_i hx
      have := szGo_small t (r - x.size) (by omega) h
      rcases List.mem_cons.1 hs with rfl | hs
      · have := (szGo_le t (r - s.size) (by omega)).2; omega
      · exact this s hs
theorem szNames_small {l : List ByteArray} {r : Int} (hr : r ≤ 1048576) (h : 0 ≤ szNames l r) : l.length ≤ 1048576 ∧ ∀ s ∈ l, s.size ≤ 1048576 := by
  unfold szNames at h
  split at h
  · omega
  · rename_i hx
    have := (szGo_le l (r - l.length) (by omega)).2
    exact ⟨by omega, szGo_small l _ (by omega) h⟩
mutual
theorem szV_small : ∀ (v : Val) (r : Int), r ≤ 1048576 → 0 ≤ szV v r → Small v
  | .mk k n t l ns, r, hr, h => by
    simp only [szV] at h
    split at h
    · omega
    · rename_i h1
      split at h
      · omega
      · rename_i h2
        split at h
        · omega
        · rename_i h3
          have a1 := szVs_le l (r - t.size) (by omega)
          have a2 := szVs_small l (r - t.size) (by omega) (by omega)
          have a3 := szNames_small (l := ns) (r := szVs l (r - t.size)) (by omega) h
          exact .mk (by omega) a3.1 a3.2 a2.1 a2.2
theorem szVs_small : ∀ (l : List Val) (r : Int), r ≤ 1048576 → 0 ≤ szVs l r → l.length ≤ 1048576 ∧ ∀ v ∈ l, Small v
  | l, r, hr, h => by
    simp only [szVs] at h
    split at h
    · omega
    · rename_i h1
      have a1 := szVgo_le l (r - l.length) (by omega)
      exact ⟨by omega, szVgo_small l (r - l.length) (by omega) (by omega) h⟩
theorem szVgo_small : ∀ (l : List Val) (r : Int), -1 ≤ r → r ≤ 1048576 → 0 ≤ szVgo l r → ∀ v ∈ l, Small v
  | [], r, a0, hr, h => fun v hv => by simp at hv
  | x :: l, r, a0, hr, h => fun v hv => by
    simp only [szVgo] at h
    split at h
    · omega
    · rename_i h1
      have a1 := szV_le x r a0
      rcases List.mem_cons.1 hv with e | hv
      · rw [e]; exact szV_small x r hr (by omega)
      · exact szVgo_small l (szV x r) (by omega) (by omega) h v hv
end

/-! ### copies -/
abbrev zV : List SV := [.d (dI 0), .d (dI 0), .d (dS ⟨#[]⟩), .fl [] 0, .fl [] 0]
abbrev sV (v : Val) : List SV := v.cells.map .d
theorem sV_len (v : Val) : (sV v).length = 5 := by rw [List.length_map, cells_len]
theorem sV_row (l : List Val) : l.flatMap sV = (valsCells l).map .d := by
  rw [valsCells_row]
  induction l with
  | nil => rfl
  | cons v r ih => simp [ih]
theorem madeS_zV (n : Nat) : madeS zV 5 n = (List.replicate n zV).flatten := madeS_row zV n
set_option maxHeartbeats 1000000 in
theorem p_toValueS_of (l : List Val) (hl : l.length ≤ 1048576) (ih : ∀ i (h : i < l.length), PCall Try.prog gl 19 [l[i].d] l[i].d) : PCall Try.prog gl 50 [valsD l] (valsD l) := by
  refine PCall.by_ (md := []) Try.func50 rfl (by kernel_rfl) (n := 23) Try.ntmps50 (by simp) (by decide) rfl ?_
  simp
  refine ⟨by omega, ?_⟩
  refine LoopT.round (fun E S => ∃ i : Nat, i ≤ l.length ∧ E 0 = some (.d (valsD l)) ∧ E 3 = some (.os 3 0 l.length) ∧ E 4 = some (.d (dI i)) ∧ S.B 3 = some (filled sV zV l i)) (upTo 4 l.length) ⟨0, by simp [filled_none, madeS_zV]⟩ ?_
  rintro E S hk ⟨i, hi, h0, h3, h4, hB⟩
  have hn : S.n = 23 := by simpa using hk.n
  have hg : S.gl = gl := by simpa using hk.gl
  have w : IntKind.i64.wrap ((i : Int) + 1) = (i : Int) + 1 := wrap64 (by omega) (by omega)
  simp [h0, h3, h4, hn]
  refine BrT.dec (fun h => ?_) (fun h => ?_)
  · have hi2 : i < l.length := by omega
    have hlen := valsCells_len l
    have hfit : i * 5 + 5 ≤ l.length * 5 := by omega
    have hflen := filled_len (enc := sV) (z := zV) sV_len rfl l hi
    have hnext := filled_next (enc := sV) (z := zV) sV_len rfl l hi2
    simp [h0, h3, h4, hn, hi2, hlen, hfit, valsCells_at]
    refine CallT.p (ih i hi2) (by first | rfl | simp [hg]) rfl ?_
    simp [h0, h3, h4, hn, hi2, hB, w, hflen, hfit, cells_len]
    refine ⟨⟨i + 1, by omega, rfl, ?_⟩, upTo_lt h4 (by simp) hi2⟩
    rw [← hnext]
    simp
  · have hi3 : i = l.length := by omega
    subst hi3
    rw [filled_all, sV_row] at hB
    simp [h0, h3, h4, hn, hB]
set_option maxHeartbeats 1000000 in
theorem p_toValue (v : Val) (hv : Small v) : PCall Try.prog gl 19 [v.d] v.d := by
  match v, hv with
  | .mk k n t l ns, .mk ht hn hns hl hwf =>
    have hs := p_toValueS_of (gl := gl) l hl (fun i hi =>
      have := List.sizeOf_lt_of_mem (List.getElem_mem hi)
      p_toValue l[i] (hwf _ (List.getElem_mem hi)))
    refine PCall.by_ (md := []) Try.func19 rfl (by kernel_rfl) (n := 22) Try.ntmps19 (by simp) (by decide) rfl ?_
    simp [Val.cells]
    refine CallT.p hs rfl rfl ?_
    simp [Val.cells]
    refine CallT.p (p_toStringS ns hn) rfl rfl ?_
    simp [Val.cells]
  termination_by SizeOf.sizeOf v
  decreasing_by
  simp_wf
  omega
end Go.Proofs.Ytghbkljdpikpdaa
