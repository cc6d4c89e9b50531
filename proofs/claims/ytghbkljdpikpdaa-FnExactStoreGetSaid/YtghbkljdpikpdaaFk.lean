/- Sizes of values. -/
import Derived.Test.YtghbkljdpikpdaaFj
set_option linter.unusedVariables false
set_option linter.unusedSimpArgs false
set_option maxRecDepth 100000
namespace Go.Proofs.Ytghbkljdpikpdaa
open Go.Sh
variable {gl : Nat → Option D}
theorem szGo_le : ∀ (l : List ByteArray) (r : Int), -1 ≤ r → -1 ≤ szGo l r ∧ szGo l r ≤ r
  | [], r, h => ⟨h, Int.le_refl _⟩
  | s :: t, r, h => by
    simp only [szGo]
    split
    · omega
    · have := szGo_le t (r - s.size) (by omega)
      omega
theorem szNames_le (l : List ByteArray) (r : Int) (h : -1 ≤ r) : -1 ≤ szNames l r ∧ szNames l r ≤ r := by
  unfold szNames
  split
  · omega
  · have := szGo_le l (r - l.length) (by omega)
    omega
mutual
theorem szV_le : ∀ (v : Val) (r : Int), -1 ≤ r → -1 ≤ szV v r ∧ szV v r ≤ r
  | .mk k n t l ns, r, h => by
    simp only [szV]
    split
    · omega
    · have h1 := szVs_le l (r - t.size) (by omega)
      split
      · omega
      · have h2 := szNames_le ns (szVs l (r - t.size)) (by omega)
        split <;> omega
theorem szVs_le : ∀ (l : List Val) (r : Int), -1 ≤ r → -1 ≤ szVs l r ∧ szVs l r ≤ r
  | l, r, h => by
    simp only [szVs]
    split
    · omega
    · have := szVgo_le l (r - l.length) (by omega)
      omega
theorem szVgo_le : ∀ (l : List Val) (r : Int), -1 ≤ r → -1 ≤ szVgo l r ∧ szVgo l r ≤ r
  | [], r, h => by simp only [szVgo]; omega
  | v :: l, r, h => by
    simp only [szVgo]
    have h1 := szV_le v r h
    split
    · omega
    · have := szVgo_le l (szV v r) (by omega)
      omega
end

set_option maxHeartbeats 1000000 in
theorem p_szValueS_of (l : List Val) (hl : l.length ≤ 4611686018427387904) (ih : ∀ i (h : i < l.length) (left : Int), 0 ≤ left → left ≤ 4611686018427387904 → PCall Try.prog gl 17 [l[i].d, dI left] (dI (szV l[i] left))) (left : Int) (h0 : 0 ≤ left) (hb : left ≤ 4611686018427387904) :
    PCall Try.prog gl 47 [valsD l, dI left] (dI (szVs l left)) := by
  refine PCall.by_ (md := []) Try.func47 rfl (by kernel_rfl) (n := 27) Try.ntmps47 (by simp) (by decide) rfl ?_
  have w0 : IntKind.i64.wrap (left - l.length) = left - l.length := wrap64 (by omega) (by omega)
  simp [w0]
  refine BrT.dec (fun h => ?_) (fun h => ?_)
  · have : szVs l left = -1 := by rw [szVs, if_pos (by omega)]
    simp [w0, h, this]
  have hsz : szVs l left = szVgo l (left - l.length) := by rw [szVs, if_neg (by omega)]
  simp [w0, h]
  refine LoopT.round (fun E S => ∃ (i : Nat) (r : Int), i ≤ l.length ∧ 0 ≤ r ∧ r ≤ 4611686018427387904 ∧ E 0 = some (.d (valsD l)) ∧ E 1 = some (.d (dI r)) ∧ E 5 = some (.d (dI i)) ∧ szVgo (l.drop i) r = szVs l left) (upTo 5 l.length) ⟨0, left - l.length, by simp [hsz]; omega⟩ ?_
  rintro E S hk ⟨i, r, hi, hr0, hr1, h0, h1, h5, hp⟩
  have hn : S.n = 27 := by simpa using hk.n
  have hg : S.gl = gl := by simpa using hk.gl
  have w : IntKind.i64.wrap ((i : Int) + 1) = (i : Int) + 1 := wrap64 (by omega) (by omega)
  simp [h0, h1, h5, hn]
  refine BrT.dec (fun h => ?_) (fun h => ?_)
  · have hi2 : i < l.length := by omega
    have hlen := valsCells_len l
    have hfit : i * 5 + 5 ≤ l.length * 5 := by omega
    have hd : szVgo (l.drop i) r = if szV l[i] r < 0 then -1 else szVgo (l.drop (i + 1)) (szV l[i] r) := by
      rw [List.drop_eq_getElem_cons hi2]; simp only [szVgo]
    have hle := szV_le l[i] r (by omega)
    simp [h0, h1, h5, hn, hi2, hlen, hfit, valsCells_at]
    refine CallT.p (ih i hi2 r hr0 hr1) (by first | rfl | simp [hg]) rfl ?_
    simp [h0, h1, h5, hn]
    refine BrT.dec (fun he => ?_) (fun he => ?_)
    · rw [hd, if_pos he] at hp
      simp [h0, h1, h5, hn, he, hp]
    · rw [hd, if_neg he] at hp
      simp [h0, h1, h5, hn, w, he]
      exact ⟨⟨i + 1, by omega, szV l[i] r, by omega, by omega, rfl, by omega, hp⟩, upTo_lt h5 (by simp) hi2⟩
  · rw [List.drop_eq_nil_of_le (by omega)] at hp
    simp only [szVgo] at hp
    simp [h0, h1, h5, hn, ← hp]

set_option maxHeartbeats 1000000 in
theorem p_szValue (v : Val) (hv : WF v) (left : Int) (h0 : 0 ≤ left) (hb : left ≤ 4611686018427387904) : PCall Try.prog gl 17 [v.d, dI left] (dI (szV v left)) := by
  match v, hv with
  | .mk k n t l ns, .mk ht hn hl hwf =>
    have hs := p_szValueS_of (gl := gl) l hl (fun i hi left a b =>
      have := List.sizeOf_lt_of_mem (List.getElem_mem hi)
      p_szValue l[i] (hwf _ (List.getElem_mem hi)) left a b)
    refine PCall.by_ (md := []) Try.func17 rfl (by kernel_rfl) (n := 25) Try.ntmps17 (by simp) (by decide) rfl ?_
    have w0 : IntKind.i64.wrap (left - t.size) = left - t.size := wrap64 (by omega) (by omega)
    simp [Val.cells, w0]
    refine BrT.dec (fun h => ?_) (fun h => ?_)
    · simp [h, w0, szV] <;> omega
    simp [h, w0, Val.cells]
    refine CallT.p (hs (left - t.size) (by omega) (by omega)) rfl rfl ?_
    have l1 := szVs_le l (left - t.size) (by omega)
    simp [Val.cells, w0]
    refine BrT.dec (fun h1 => ?_) (fun h1 => ?_)
    · simp [h1, w0, szV] <;> omega
    simp [h1, w0, Val.cells]
    refine CallT.p (p_szStringS ns (szVs l (left - t.size)) hn (by omega) (by omega)) rfl rfl ?_
    simp [Val.cells, w0]
    refine BrT.dec (fun h2 => ?_) (fun h2 => ?_)
    · simp [h2, h1, w0, szV] <;> omega
    · simp [h2, h1, w0, szV] <;> omega
  termination_by SizeOf.sizeOf v
  decreasing_by
  simp_wf
  omega
end Go.Proofs.Ytghbkljdpikpdaa
