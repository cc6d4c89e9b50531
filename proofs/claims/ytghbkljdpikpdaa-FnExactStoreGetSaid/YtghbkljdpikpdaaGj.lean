/- Marks that are read again. -/
import Derived.Test.YtghbkljdpikpdaaGi
set_option linter.unusedVariables false
set_option linter.unusedSimpArgs false
set_option maxRecDepth 100000
namespace Go.Proofs.Ytghbkljdpikpdaa
open Go.Sh
variable {gl : Nat → Option D}
theorem vals_cell (l : List Val) {i j : Nat} (hi : i < l.length) (hj : j < 5) : (valsCells l)[i * 5 + j]? = l[i].cells[j]? := by
  have h := congrArg (fun x => x[j]?) (valsCells_at l hi)
  simp only [List.getElem?_take, List.getElem?_drop] at h
  rw [if_pos hj] at h
  exact h
theorem vals_cell0 (l : List Val) {i : Nat} (hi : i < l.length) : (valsCells l)[i * 5]? = l[i].cells[0]? := vals_cell l (j := 0) hi (by omega)
set_option maxHeartbeats 4000000 in
theorem p_heldValueS (l : List Val) (n : Nat) (h1 : 1 ≤ n) (hn : n + cntVs l ≤ 1073741824) : PCall Try.prog gl 45 [valsD (markVs l n), dI n] (dI ((n + cntVs l : Nat) : Int)) := by
  have hlen := cntVs_len l
  refine PCall.by_ (md := []) Try.func45 rfl (by kernel_rfl) (n := 59) Try.ntmps45 (by simp) (by decide) rfl ?_
  simp
  refine LoopT.round (fun E S => ∃ (i : Nat) (q : Nat), (i ≤ l.length) ∧ E 0 = some (.d (valsD (markVs l n))) ∧ E 1 = some (.d (dI q)) ∧ E 5 = some (.d (dI i)) ∧ ((markVs l n).drop i = markVs (l.drop i) q) ∧ (q + cntVs (l.drop i) = n + cntVs l)) (upTo 5 l.length) ⟨0, n, by simp⟩ ?_
  rintro E S hk ⟨i, q, hi, h0, h1, h5, hm, hq⟩
  have hn : S.n = 59 := by first | (simpa using hk.n) | (have hh := hk.n; simp at hh; exact hh)
  have hg : S.gl = gl := by first | (simpa using hk.gl) | (have hh := hk.gl; simp at hh; exact hh)
  have hmd : S.md = [] := by first | (simpa using hk.md) | (have hh := hk.md; simp at hh; exact hh)
  simp [h0, h1, h5, hn, hg, hmd]
  have w := wrap64 (n := (i : Int) + 1) (by omega) (by omega)
  have hml := markVs_len l n
  refine BrT.dec (fun c => ?_) (fun c => ?_)
  · have hi2 : i < l.length := by omega
    have hi3 : i < (markVs l n).length := by omega
    rw [List.drop_eq_getElem_cons hi2, List.drop_eq_getElem_cons hi3, markVs] at hm
    rw [List.drop_eq_getElem_cons hi2] at hq
    obtain ⟨hm1, hm2⟩ := List.cons.inj hm
    have f0 := vals_cell0 (markVs l n) hi3
    have f1 := vals_cell (markVs l n) (j := 1) hi3 (by omega)
    have f2 := vals_cell (markVs l n) (j := 2) hi3 (by omega)
    have f3 := vals_cell (markVs l n) (j := 3) hi3 (by omega)
    have f4 := vals_cell (markVs l n) (j := 4) hi3 (by omega)
    rw [hm1] at f0 f1 f2 f3 f4
    have hmem := List.getElem_mem hi2
    generalize l[i] = v at hm1 hm2 hq f0 f1 f2 f3 f4 hmem
    cases v with
    | mk k m t lv ns =>
    have hlv : SizeOf.sizeOf lv < SizeOf.sizeOf l := by have := List.sizeOf_lt_of_mem hmem; simp only [Val.mk.sizeOf_spec] at this; omega
    simp only [cntVs, cntV] at hq
    simp only [markV, Val.cells, List.getElem?_cons_zero, List.getElem?_cons_succ] at f0 f1 f2 f3 f4
    have wq1 := wrap64 (n := (q : Int) + 1) (by omega) (by omega)
    have wq2 := wrap64 (n := (q : Int) + 1 + 1) (by omega) (by omega)
    have wq3 := wrap64 (n := (q : Int) + 1 + 1 + 1) (by omega) (by omega)
    simp [h0, h1, h5, hn, hg, hmd, c, hi2, w, hml, f0, f1, f2, f3, f4, wq1, wq2, wq3]
    repeat refine ⟨DrawT.mk (by kernel_rfl), ?_⟩
    refine CallT.p0 (p_markText (q + 2) (by omega) (by omega)) (by first | rfl | (simp; done) | (simp [h0, h1, h5, hn, hg, hmd, c, hi2, w, hml, f0, f1, f2, f3, f4, wq1, wq2, wq3]; done)) (by first | rfl | (simp; done) | (simp; rfl)) ?_
    simp [h0, h1, h5, hn, hg, hmd, c, hi2, w, hml, f0, f1, f2, f3, f4, wq1, wq2, wq3]
    repeat refine ⟨DrawT.mk (by kernel_rfl), ?_⟩
    refine CallT.p0 (p_heldValueS lv (q + 3) (by omega) (by omega)) (by first | rfl | (simp; done) | (simp [h0, h1, h5, hn, hg, hmd, c, hi2, w, hml, f0, f1, f2, f3, f4, wq1, wq2, wq3]; done)) (by first | rfl | (simp; done) | (simp; rfl)) ?_
    simp [h0, h1, h5, hn, hg, hmd, c, hi2, w, hml, f0, f1, f2, f3, f4, wq1, wq2, wq3]
    have wq4 : ¬ ((q : Int) + 3 + cntVs lv < 0) := by omega
    simp [h0, h1, h5, hn, hg, hmd, c, hi2, w, hml, f0, f1, f2, f3, f4, wq1, wq2, wq3, wq4]
    repeat refine ⟨DrawT.mk (by kernel_rfl), ?_⟩
    refine CallT.p0 (p_heldStringS (q + 3 + cntVs lv) ns.length (by omega) (by omega) (by omega)) (by first | rfl | (simp; done) | (simp [h0, h1, h5, hn, hg, hmd, c, hi2, w, hml, f0, f1, f2, f3, f4, wq1, wq2, wq3, wq4]; done)) (by first | rfl | (simp; done) | (simp; rfl)) ?_
    simp [h0, h1, h5, hn, hg, hmd, c, hi2, w, hml, f0, f1, f2, f3, f4, wq1, wq2, wq3, wq4]
    have wq5 : ¬ ((q : Int) + 3 + cntVs lv + ns.length < 0) := by omega
    simp [h0, h1, h5, hn, hg, hmd, c, hi2, w, hml, f0, f1, f2, f3, f4, wq1, wq2, wq3, wq4, wq5]
    exact ⟨⟨i + 1, hi2, q + (3 + cntVs lv + ns.length), by omega, by omega, hm2, by omega⟩, upTo_lt h5 (by simp) hi2⟩
  · simp [h0, h1, h5, hn, hg, hmd, c]
    rw [List.drop_eq_nil_of_le (by omega), cntVs] at hq
    omega
  termination_by SizeOf.sizeOf l
set_option maxHeartbeats 1000000 in
theorem p_heldValue (k m : Int) (t : ByteArray) (lv : List Val) (ns : List ByteArray) (q : Nat) (h1 : 1 ≤ q) (hq : q + cntVs lv + ns.length ≤ 1073741824) :
    PCall Try.prog gl 16 [(Val.mk k m t (markVs lv q) (marks (q + cntVs lv) ns.length)).d, dI q] (dI ((q + cntVs lv + ns.length : Nat) : Int)) := by
  refine PCall.by_ (md := []) Try.func16 rfl (by kernel_rfl) (n := 18) Try.ntmps16 (by simp) (by decide) rfl ?_
  simp [Val.cells]
  repeat refine ⟨DrawT.mk (by kernel_rfl), ?_⟩
  refine CallT.p0 (p_heldValueS lv q h1 (by omega)) (by first | rfl | (simp; done) | (simp; done)) (by first | rfl | (simp; done) | (simp; rfl)) ?_
  simp
  have wq4 : ¬ ((q : Int) + cntVs lv < 0) := by omega
  simp [wq4]
  repeat refine ⟨DrawT.mk (by kernel_rfl), ?_⟩
  refine CallT.p0 (p_heldStringS (q + cntVs lv) ns.length (by omega) (by omega) (by omega)) (by first | rfl | (simp; done) | (simp [wq4]; done)) (by first | rfl | (simp; done) | (simp; rfl)) ?_
  simp [wq4]
  have wq5 : ¬ ((q : Int) + cntVs lv + ns.length < 0) := by omega
  simp [wq4, wq5]
theorem nods_cell (l : List Nod) {i j : Nat} (hi : i < l.length) (hj : j < 7) : (nodsCells l)[i * 7 + j]? = l[i].cells[j]? := by
  have h := congrArg (fun x => x[j]?) (nods_at l hi)
  simp only [List.getElem?_take, List.getElem?_drop] at h
  rw [if_pos hj] at h
  exact h
theorem nods_cell0 (l : List Nod) {i : Nat} (hi : i < l.length) : (nodsCells l)[i * 7]? = l[i].cells[0]? := nods_cell l (j := 0) hi (by omega)
theorem nods_cell2 (l : List Nod) {i j k : Nat} (hi : i < l.length) (hj : j + k < 7) : (nodsCells l)[i * 7 + j + k]? = l[i].cells[j + k]? := by rw [Nat.add_assoc]; exact nods_cell l hi hj
set_option maxHeartbeats 4000000 in
theorem p_heldNodeS (l : List Nod) (n : Nat) (h1 : 1 ≤ n) (hn : n + cntNs l ≤ 1073741824) : PCall Try.prog gl 21 [nodsD (markNs l n), dI n] (dI ((n + cntNs l : Nat) : Int)) := by
  have hlen := cntNs_len l
  refine PCall.by_ (md := []) Try.func21 rfl (by kernel_rfl) (n := 83) Try.ntmps21 (by simp) (by decide) rfl ?_
  simp
  refine LoopT.round (fun E S => ∃ (i : Nat) (q : Nat), (i ≤ l.length) ∧ E 0 = some (.d (nodsD (markNs l n))) ∧ E 1 = some (.d (dI q)) ∧ E 5 = some (.d (dI i)) ∧ ((markNs l n).drop i = markNs (l.drop i) q) ∧ (q + cntNs (l.drop i) = n + cntNs l)) (upTo 5 l.length) ⟨0, n, by simp⟩ ?_
  rintro E S hk ⟨i, q, hi, h0, h1, h5, hm, hq⟩
  have hn : S.n = 83 := by first | (simpa using hk.n) | (have hh := hk.n; simp at hh; exact hh)
  have hg : S.gl = gl := by first | (simpa using hk.gl) | (have hh := hk.gl; simp at hh; exact hh)
  have hmd : S.md = [] := by first | (simpa using hk.md) | (have hh := hk.md; simp at hh; exact hh)
  simp [h0, h1, h5, hn, hg, hmd]
  have w := wrap64 (n := (i : Int) + 1) (by omega) (by omega)
  have hml := markNs_len l n
  refine BrT.dec (fun c => ?_) (fun c => ?_)
  · have hi2 : i < l.length := by omega
    have hi3 : i < (markNs l n).length := by omega
    rw [List.drop_eq_getElem_cons hi2, List.drop_eq_getElem_cons hi3, markNs] at hm
    rw [List.drop_eq_getElem_cons hi2] at hq
    obtain ⟨hm1, hm2⟩ := List.cons.inj hm
    have f0 := nods_cell0 (markNs l n) hi3
    have f1 := nods_cell (markNs l n) (j := 1) hi3 (by omega)
    have f2 := nods_cell (markNs l n) (j := 2) hi3 (by omega)
    have f3 := nods_cell2 (markNs l n) (j := 2) (k := 1) hi3 (by omega)
    have f4 := nods_cell2 (markNs l n) (j := 2) (k := 2) hi3 (by omega)
    have f5 := nods_cell2 (markNs l n) (j := 2) (k := 3) hi3 (by omega)
    have f6 := nods_cell2 (markNs l n) (j := 2) (k := 4) hi3 (by omega)
    rw [hm1] at f0 f1 f2 f3 f4 f5 f6
    generalize l[i] = v at hm1 hm2 hq f0 f1 f2 f3 f4 f5 f6
    obtain ⟨id, ty, v⟩ := v
    cases v with
    | mk k m t lv ns =>
    simp only [cntNs, cntN] at hq
    simp only [markN, Nod.cells, Val.cells, List.getElem?_cons_zero, List.getElem?_cons_succ, Nat.reduceAdd] at f0 f1 f2 f3 f4 f5 f6
    have wq1 := wrap64 (n := (q : Int) + 1) (by omega) (by omega)
    have wq2 := wrap64 (n := (q : Int) + 1 + 1) (by omega) (by omega)
    have wq3 := wrap64 (n := (q : Int) + 1 + 1 + 1) (by omega) (by omega)
    have wq4 := wrap64 (n := (q : Int) + 1 + 1 + 1 + 1) (by omega) (by omega)
    have wq5 := wrap64 (n := (q : Int) + 1 + 1 + 1 + 1 + 1) (by omega) (by omega)
    simp [h0, h1, h5, hn, hg, hmd, c, hi2, w, hml, f0, f1, f2, f3, f4, f5, f6, wq1, wq2, wq3, wq4, wq5]
    repeat refine ⟨DrawT.mk (by kernel_rfl), ?_⟩
    refine CallT.p0 (p_markText (q + 1) (by omega) (by omega)) (by first | rfl | (simp; done) | (simp [h0, h1, h5, hn, hg, hmd, c, hi2, w, hml, f0, f1, f2, f3, f4, f5, f6, wq1, wq2, wq3, wq4, wq5]; done)) (by first | rfl | (simp; done) | (simp; rfl)) ?_
    simp [h0, h1, h5, hn, hg, hmd, c, hi2, w, hml, f0, f1, f2, f3, f4, f5, f6, wq1, wq2, wq3, wq4, wq5]
    have e2 : (q : Int) + 2 = q + 1 + 1 := by omega
    have e3 : (q : Int) + 3 = q + 1 + 1 + 1 := by omega
    simp [h0, h1, h5, hn, hg, hmd, c, hi2, w, hml, f0, f1, f2, f3, f4, f5, f6, wq1, wq2, wq3, wq4, wq5, e2, e3]
    repeat refine ⟨DrawT.mk (by kernel_rfl), ?_⟩
    refine CallT.p0 (p_markText (q + 4) (by omega) (by omega)) (by first | rfl | (simp; done) | (simp [h0, h1, h5, hn, hg, hmd, c, hi2, w, hml, f0, f1, f2, f3, f4, f5, f6, wq1, wq2, wq3, wq4, wq5, e2, e3]; done)) (by first | rfl | (simp; done) | (simp; rfl)) ?_
    simp [h0, h1, h5, hn, hg, hmd, c, hi2, w, hml, f0, f1, f2, f3, f4, f5, f6, wq1, wq2, wq3, wq4, wq5, e2, e3]
    repeat refine ⟨DrawT.mk (by kernel_rfl), ?_⟩
    refine CallT.p0 (p_heldValueS lv (q + 5) (by omega) (by omega)) (by first | rfl | (simp; done) | (simp [h0, h1, h5, hn, hg, hmd, c, hi2, w, hml, f0, f1, f2, f3, f4, f5, f6, wq1, wq2, wq3, wq4, wq5, e2, e3]; done)) (by first | rfl | (simp; done) | (simp; rfl)) ?_
    simp [h0, h1, h5, hn, hg, hmd, c, hi2, w, hml, f0, f1, f2, f3, f4, f5, f6, wq1, wq2, wq3, wq4, wq5, e2, e3]
    have wq6 : ¬ ((q : Int) + 5 + cntVs lv < 0) := by omega
    simp [h0, h1, h5, hn, hg, hmd, c, hi2, w, hml, f0, f1, f2, f3, f4, f5, f6, wq1, wq2, wq3, wq4, wq5, e2, e3, wq6]
    repeat refine ⟨DrawT.mk (by kernel_rfl), ?_⟩
    refine CallT.p0 (p_heldStringS (q + 5 + cntVs lv) ns.length (by omega) (by omega) (by omega)) (by first | rfl | (simp; done) | (simp [h0, h1, h5, hn, hg, hmd, c, hi2, w, hml, f0, f1, f2, f3, f4, f5, f6, wq1, wq2, wq3, wq4, wq5, e2, e3, wq6]; done)) (by first | rfl | (simp; done) | (simp; rfl)) ?_
    simp [h0, h1, h5, hn, hg, hmd, c, hi2, w, hml, f0, f1, f2, f3, f4, f5, f6, wq1, wq2, wq3, wq4, wq5, e2, e3, wq6]
    have wq7 : ¬ ((q : Int) + 5 + cntVs lv + ns.length < 0) := by omega
    simp [h0, h1, h5, hn, hg, hmd, c, hi2, w, hml, f0, f1, f2, f3, f4, f5, f6, wq1, wq2, wq3, wq4, wq5, e2, e3, wq6, wq7]
    exact ⟨⟨i + 1, hi2, q + (5 + cntVs lv + ns.length), by omega, by omega, hm2, by omega⟩, upTo_lt h5 (by simp) hi2⟩
  · simp [h0, h1, h5, hn, hg, hmd, c]
    rw [List.drop_eq_nil_of_le (by omega), cntNs] at hq
    omega
end Go.Proofs.Ytghbkljdpikpdaa
