/- spec.StoreGet, and what it comes to. -/
import Derived.Test.YtghbkljdpikpdaaGe
set_option linter.unusedVariables false
set_option linter.unusedSimpArgs false
set_option maxRecDepth 100000
namespace Go.Proofs.Ytghbkljdpikpdaa
open Go.Sh
variable {gl : Nat → Option D}
/-- A row that grows: nothing yet, or a tip. -/
def AccD (sz : Nat) (S : St) (X : SV) (cs : List D) (n : Nat) : Prop := (n = 0 ∧ cs = [] ∧ X = .fl [] 0) ∨ (0 < n ∧ ∃ i, i < S.nx ∧ X = .tp i 0 cs n ∧ S.T i = some (n, sz))
theorem AccD.nil {sz : Nat} {S : St} : AccD sz S (.fl [] 0) [] 0 := .inl ⟨rfl, rfl, rfl⟩
theorem AccD.mono {sz : Nat} {S S' : St} {X : SV} {cs : List D} {n : Nat} (h : AccD sz S X cs n) (hn : S.nx ≤ S'.nx) (hT : ∀ i, i < S.nx → S'.T i = S.T i) : AccD sz S' X cs n :=
  h.imp id fun ⟨a, i, h1, h2, h3⟩ => ⟨a, i, by omega, h2, (hT i h1).trans h3⟩
theorem AccD.other {sz sz' m q : Nat} {S S' : St} {X : SV} {cs : List D} {n : Nat} (h : AccD sz S X cs n) (hq : S.T q = some (m, sz')) (hne : sz' ≠ sz) (hn : S.nx ≤ S'.nx) (hT : ∀ i, i < S.nx → i ≠ q → S'.T i = S.T i) : AccD sz S' X cs n :=
  h.imp id fun ⟨a, i, h1, h2, h3⟩ => ⟨a, i, by omega, h2, (hT i h1 (fun e => by rw [e, hq] at h3; simp at h3; exact hne h3.2)).trans h3⟩
theorem AccD.frz {sz : Nat} {S : St} {X : SV} {cs : List D} {n k : Nat} {B : Nat → Option (List SV)} (h : AccD sz S X cs n) : Go.Sh.frz B (k + 1) X = some (.ps cs n) := by
  rcases h with ⟨rfl, rfl, rfl⟩ | ⟨_, i, _, rfl, _⟩ <;> rfl
theorem AccD.one {sz : Nat} {S : St} {X : SV} {cs : List D} {n : Nat} (h : AccD sz S X cs n) : X.one = true ∧ X.cells = [X] ∧ X.cell = true := by
  rcases h with ⟨rfl, rfl, rfl⟩ | ⟨_, i, _, rfl, _⟩ <;> exact ⟨rfl, rfl, rfl⟩
theorem valsCells_next (l : List Val) {i : Nat} (h : i < l.length) : valsCells (l.take (i + 1)) = valsCells (l.take i) ++ l[i].cells := by
  rw [valsCells_row, valsCells_row, List.take_succ_eq_append_getElem h, List.flatMap_append]; simp
set_option maxHeartbeats 4000000 in
theorem p_l1Copy (v : Val) (hv : Small v) : PCall Try.prog gl 76 [v.d] v.d := by
  match v, hv with
  | .mk k n t l ns, .mk ht hn hns hl hwf =>
    have ih : ∀ i (hi : i < l.length), PCall Try.prog gl 76 [l[i].d] l[i].d := fun i hi =>
      have := List.sizeOf_lt_of_mem (List.getElem_mem hi)
      p_l1Copy l[i] (hwf _ (List.getElem_mem hi))
    refine PCall.by_ (md := []) Try.func76 rfl (by kernel_rfl) (n := 49) Try.ntmps76 (by simp) (by decide) rfl ?_
    simp [Val.cells]
    refine LoopT.round (fun E S => ∃ (i : Nat) (X : SV), (i ≤ l.length) ∧ E 1 = some (.op 0 0) ∧ E 2 = some (.op 1 0) ∧ E 3 = some (.op 9 0) ∧ E 4 = some (.d (dI i)) ∧ S.B 0 = some ([.d (dI k), .d (dI n), .d (dS t), .d (valsD l), .d (namesD ns)]) ∧ S.B 1 = some (zV) ∧ S.B 9 = some ([.d (dI k), .d (dI n), .d (dS t), X, .fl [] 0]) ∧ (AccD 5 S X (valsCells (l.take i)) i) ∧ (10 ≤ S.nx)) (upTo 4 l.length) ⟨0, .fl [] 0, by simp [valsCells]; exact AccD.nil⟩ ?_
    rintro E S hk ⟨i, X, hi, h1, h2, h3, h4, hB0, hB1, hB9, hA, hx⟩
    have hn : S.n = 49 := by first | (simpa using hk.n) | (have hh := hk.n; simp at hh; exact hh)
    have hg : S.gl = gl := by first | (simpa using hk.gl) | (have hh := hk.gl; simp at hh; exact hh)
    have hmd : S.md = [] := by first | (simpa using hk.md) | (have hh := hk.md; simp at hh; exact hh)
    simp [h1, h2, h3, h4, hB0, hB1, hB9, hn, hg, hmd]
    have w := wrap64 (n := (i : Int) + 1) (by omega) (by omega)
    refine BrT.dec (fun c => ?_) (fun c => ?_)
    · have hi2 : i < l.length := by omega
      have hlen := valsCells_len l
      have hfit : i * 5 + 5 ≤ l.length * 5 := by omega
      have hA1 := hA.one
      simp [h1, h2, h3, h4, hB0, hB1, hB9, hn, hg, hmd, c, hi2, w, hlen, hfit, valsCells_at, cells_len, hA1.1, hA1.2.1]
      refine ⟨DrawT.mk (by kernel_rfl), ?_⟩
      repeat refine ⟨DrawT.mk (by kernel_rfl), ?_⟩
      refine CallT.p0 (ih i hi2) (by first | rfl | (simp; done) | (simp [h1, h2, h3, h4, hB0, hB1, hB9, hn, hg, hmd, c, hi2, w, hlen, hfit, valsCells_at, cells_len, hA1.1, hA1.2.1]; done)) (by first | rfl | (simp; done) | (simp; rfl)) ?_
      simp [h1, h2, h3, h4, hB0, hB1, hB9, hn, hg, hmd, c, hi2, w, hlen, hfit, valsCells_at, cells_len, hA1.1, hA1.2.1]
      have hvn := valsCells_next l hi2
      rcases hA with ⟨rfl, _, rfl⟩ | ⟨h0, q, hq, rfl, hT⟩
      · simp [h1, h2, h3, h4, hB0, hB1, hB9, hn, hg, hmd, c, hi2, w, hlen, hfit, valsCells_at, cells_len, hA1.1, hA1.2.1]
        refine ⟨by unfold appBound; omega, ⟨1, by omega, rfl, .inr ⟨by omega, S.nx + 5 + 9, by simp, ?_, by simp⟩⟩, upTo_lt h4 (by simp) hi2⟩
        have e : valsCells (l.take 1) = l[0].cells := by simpa [valsCells] using hvn
        rw [e]
      · simp [h1, h2, h3, h4, hB0, hB1, hB9, hn, hg, hmd, c, hi2, w, hlen, hfit, valsCells_at, cells_len, hA1.1, hA1.2.1, hT]
        exact ⟨⟨by rw [valsCells_len, List.length_take]; congr 1; omega, by unfold appBound; omega⟩, ⟨i + 1, hi2, by omega, .inr ⟨by omega, q, by simp; omega, by rw [hvn], by simp⟩⟩, upTo_lt h4 (by simp) hi2⟩
    · have hi3 : i = l.length := by omega
      subst hi3
      rw [List.take_length] at hA
      simp [h1, h2, h3, h4, hB0, hB1, hB9, hn, hg, hmd, c]
      refine LoopT.round (fun E S => ∃ (i : Nat) (Y : SV), (i ≤ ns.length) ∧ E 1 = some (.op 0 0) ∧ E 2 = some (.op 1 0) ∧ E 3 = some (.op 9 0) ∧ E 5 = some (.d (dI i)) ∧ S.B 0 = some ([.d (dI k), .d (dI n), .d (dS t), .d (valsD l), .d (namesD ns)]) ∧ S.B 1 = some (zV) ∧ S.B 9 = some ([.d (dI k), .d (dI n), .d (dS t), X, Y]) ∧ (AccD 5 S X (valsCells l) l.length) ∧ (AccD 1 S Y ((ns.take i).map dS) i) ∧ (10 ≤ S.nx)) (upTo 5 ns.length) ⟨0, .fl [] 0, by simp [h1, h2, h3, h4, hB0, hB1, hB9, hn, hg, hmd, c]; exact ⟨hA.mono (by simp) (fun _ _ => rfl), AccD.nil, by omega⟩⟩ ?_
      rintro E S hk ⟨i, Y, hi, h1, h2, h3, h5, hB0, hB1, hB9, hA, hY, hx⟩
      have hn : S.n = 49 := by first | (simpa using hk.n) | (have hh := hk.n; simp [h1, h2, h3, h4, hB0, hB1, hB9, hn, hg, hmd, c] at hh; exact hh)
      have hg : S.gl = gl := by first | (simpa using hk.gl) | (have hh := hk.gl; simp [h1, h2, h3, h4, hB0, hB1, hB9, hn, hg, hmd, c] at hh; exact hh)
      have hmd : S.md = [] := by first | (simpa using hk.md) | (have hh := hk.md; simp [h1, h2, h3, h4, hB0, hB1, hB9, hn, hg, hmd, c] at hh; exact hh)
      simp [h1, h2, h3, h4, hB0, hB1, hB9, hn, hg, hmd, c, h1, h2, h3, h5, hB0, hB1, hB9, hn, hg, hmd]
      have w := wrap64 (n := (i : Int) + 1) (by omega) (by omega)
      refine BrT.dec (fun c2 => ?_) (fun c2 => ?_)
      · have hi2 : i < ns.length := by omega
        have hY1 := hY.one
        have hA1 := hA.one
        have hvn : (ns.take (i + 1)).map dS = (ns.take i).map dS ++ [dS ns[i]] := by rw [List.take_succ_eq_append_getElem hi2, List.map_append]; rfl
        rcases hY with ⟨rfl, _, rfl⟩ | ⟨h0, q, hq, rfl, hT⟩
        · simp [h1, h2, h3, h4, hB0, hB1, hB9, hn, hg, hmd, c, h1, h2, h3, h5, hB0, hB1, hB9, hn, hg, hmd, c2, hi2, w, hY1.1, hY1.2.1, hA1.1, hA1.2.1]
          refine ⟨DrawT.mk (by kernel_rfl), by unfold appBound; omega, ⟨1, by omega, rfl, hA.mono (by simp) (fun j hj => by simp; omega), .inr ⟨by omega, S.nx + 5 + 8, by simp, ?_, by simp⟩⟩, upTo_lt h5 (by simp) hi2⟩
          have e : List.take 1 (List.map dS ns) = [dS ns[0]] := by rw [← List.map_take]; simpa using hvn
          rw [e]
        · simp [h1, h2, h3, h4, hB0, hB1, hB9, hn, hg, hmd, c, h1, h2, h3, h5, hB0, hB1, hB9, hn, hg, hmd, c2, hi2, w, hY1.1, hY1.2.1, hA1.1, hA1.2.1, hT]
          refine ⟨DrawT.mk (by kernel_rfl), ⟨by omega, by unfold appBound; omega⟩, ⟨i + 1, hi2, by omega, hA.other hT (by omega) (by simp) (fun j hj hne => by simp [hne]), .inr ⟨by omega, q, by simp; omega, ?_, by simp⟩⟩, upTo_lt h5 (by simp) hi2⟩
          rw [← List.map_take, ← List.map_take, hvn]
      · have hi3 : i = ns.length := by omega
        subst hi3
        rw [List.take_length] at hY
        have hA2 := hA.one
        have hY2 := hY.one
        have f1 : ∀ B k, frz B (k + 1) X = some (valsD l) := fun B k => hA.frz
        have f2 : ∀ B k, frz B (k + 1) Y = some (namesD ns) := fun B k => hY.frz
        simp [h1, h2, h3, h4, hB0, hB1, hB9, hn, hg, hmd, c, h1, h2, h3, h5, hB0, hB1, hB9, hn, hg, hmd, c2, hA2.1, hA2.2.1, hA2.2.2, hY2.1, hY2.2.1, hY2.2.2, f1, f2]
        rfl
  termination_by SizeOf.sizeOf v
  decreasing_by
  simp only [Val.mk.sizeOf_spec]
  omega
set_option maxHeartbeats 1000000 in
theorem p_l5At (l : List Nod) (id : Int) (hl : l.length ≤ 4611686018427387904) : PCall Try.prog gl 74 [nodsD l, dI id] (dI (idAt id l)) := by
  refine PCall.by_ (md := []) Try.func74 rfl (by kernel_rfl) (n := 20) Try.ntmps74 (by simp) (by decide) rfl ?_
  simp
  refine LoopT.round (fun E S => ∃ (i : Nat), (i ≤ l.length) ∧ E 0 = some (.d (nodsD l)) ∧ E 1 = some (.d (dI id)) ∧ E 5 = some (.d (dI i)) ∧ (∀ j (hj : j < l.length), j < i → ¬ l[j].id = id)) (upTo 5 l.length) ⟨0, by simp⟩ ?_
  rintro E S hk ⟨i, hi, h0, h1, h5, hp⟩
  have hn : S.n = 20 := by first | (simpa using hk.n) | (have hh := hk.n; simp at hh; exact hh)
  have hg : S.gl = gl := by first | (simpa using hk.gl) | (have hh := hk.gl; simp at hh; exact hh)
  have hmd : S.md = [] := by first | (simpa using hk.md) | (have hh := hk.md; simp at hh; exact hh)
  simp [h0, h1, h5, hn, hg, hmd]
  have w := wrap64 (n := (i : Int) + 1) (by omega) (by omega)
  refine BrT.dec (fun c => ?_) (fun c => ?_)
  · have hi2 : i < l.length := by omega
    have hid := nods_id l hi2
    rw [← nd_at hi2] at hid
    simp [h0, h1, h5, hn, hg, hmd, c, hi2, hid]
    refine BrT.dec (fun e => ?_) (fun e => ?_)
    · simp [h0, h1, h5, hn, hg, hmd, c, e]
      exact (posI_found (p := fun n : Nod => decide (n.id = id)) hi2 (fun j hj h => decide_eq_false (hp j hj h)) (decide_eq_true e)).symm
    · simp [h0, h1, h5, hn, hg, hmd, c, e, w]
      refine ⟨⟨i + 1, by omega, by omega, fun j hj hji => ?_⟩, upTo_lt h5 (by simp) hi2⟩
      rcases Nat.lt_or_ge j i with c' | c'
      · exact hp j hj c'
      · have : j = i := by omega
        subst this; exact e
  · simp [h0, h1, h5, hn, hg, hmd, c]
    exact (posI_none (p := fun n : Nod => decide (n.id = id)) fun j hj => decide_eq_false (hp j hj (by omega))).symm
set_option maxHeartbeats 1000000 in
theorem p_l1Tree (v : Val) (x : ByteArray) (hk : v.kind = 5) (h1 : v.names.length ≤ v.list.length) (h2 : v.list.length ≤ 4611686018427387904) : PCall Try.prog gl 75 [v.d, dS x] (.tup [(cellV v x).d, dB (decide (0 ≤ idxI x v.names))]) := by
  cases v with
  | mk k n t l ns =>
    simp only [Val.names, Val.list] at h1 h2
    have hk : k = 5 := hk
    subst hk
    refine PCall.by_ (md := []) Try.func75 rfl (by kernel_rfl) (n := 32) Try.ntmps75 (by simp) (by decide) rfl ?_
    simp [Val.cells]
    refine LoopT.round (fun E S => ∃ (i : Nat), (i ≤ ns.length) ∧ E 1 = some (.d (dS x)) ∧ E 2 = some (.op 0 0) ∧ E 4 = some (.op 1 0) ∧ E 6 = some (.d (dI i)) ∧ S.B 0 = some ([.d (dI 5), .d (dI n), .d (dS t), .d (valsD l), .d (namesD ns)]) ∧ S.B 1 = some (zV) ∧ (∀ j (hj : j < ns.length), j < i → x ≠ ns[j])) (upTo 6 ns.length) ⟨0, by simp⟩ ?_
    rintro E S hk ⟨i, hi, h1, h2, h4, h6, hB0, hB1, hp⟩
    have hn : S.n = 32 := by first | (simpa using hk.n) | (have hh := hk.n; simp at hh; exact hh)
    have hg : S.gl = gl := by first | (simpa using hk.gl) | (have hh := hk.gl; simp at hh; exact hh)
    have hmd : S.md = [] := by first | (simpa using hk.md) | (have hh := hk.md; simp at hh; exact hh)
    simp [h1, h2, h4, h6, hB0, hB1, hn, hg, hmd]
    have w := wrap64 (n := (i : Int) + 1) (by omega) (by omega)
    refine BrT.dec (fun c => ?_) (fun c => ?_)
    · have hi2 : i < ns.length := by omega
      have hi3 : i < l.length := by omega
      have hlen := valsCells_len l
      have hfit : i * 5 + 5 ≤ l.length * 5 := by omega
      simp [h1, h2, h4, h6, hB0, hB1, hn, hg, hmd, c, hi2, hi3, hlen, hfit, valsCells_at, cells_len, w]
      refine BrT.dec (fun e => ?_) (fun e => ?_)
      · have h := idxI_found hi2 hp e.symm
        have e2 : cellV (.mk 5 n t l ns) x = l[i] := by
          rw [cellV_mk, if_neg (by omega), show (idxI x ns).toNat = i by omega, val_at hi3]
        simp [h1, h2, h4, h6, hB0, hB1, hn, hg, hmd, c, hi2, hi3, hlen, hfit, valsCells_at, cells_len, w, e, h, e2, Val.names]
      · simp [h1, h2, h4, h6, hB0, hB1, hn, hg, hmd, c, hi2, hi3, hlen, hfit, valsCells_at, cells_len, w, e]
        refine ⟨⟨i + 1, by omega, by omega, fun j hj hji => ?_⟩, upTo_lt h6 (by simp) hi2⟩
        rcases Nat.lt_or_ge j i with c' | c'
        · exact hp j hj c'
        · have : j = i := by omega
          subst this; exact fun q => e q.symm
    · have h : idxI x ns = -1 := idxI_none fun j hj => hp j hj (by omega)
      have e2 : cellV (.mk 5 n t l ns) x = zeroV := by rw [cellV_mk, if_pos (by omega)]
      simp [h1, h2, h4, h6, hB0, hB1, hn, hg, hmd, c, h, e2, Val.names]
      rfl
theorem nods_val (l : List Nod) {i : Nat} (hi : i < l.length) : List.take 5 (List.drop (i * 7 + 2) (nodsCells l)) = l[i].val.cells := by
  have h := congrArg (List.drop 2) (nods_at l hi)
  rw [List.drop_take, List.drop_drop] at h
  simpa [Nod.cells] using h
set_option maxHeartbeats 1000000 in
theorem p_spStoreGet (l : List Nod) (id : Int) (x : ByteArray) (hl : l.length ≤ 4611686018427387904) (hok : ∀ n ∈ l, NodOk n) (hs : ∀ n ∈ l, Small n.val) :
    PCall Try.prog gl 9 [nodsD l, dI id, dS x] (if storeB l = true then getV l id x else zeroV).d := by
  have hget : storeB l = true → PCall Try.prog gl 33 [nodsD l, dI id, dS x] (getV l id x).d := fun h => by
    refine PCall.by_ (md := []) Try.func33 rfl (by kernel_rfl) (n := 28) Try.ntmps33 (by simp) (by decide) rfl ?_
    simp
    repeat refine ⟨DrawT.mk (by kernel_rfl), ?_⟩
    refine CallT.p0 (p_l5At l id hl) (by first | rfl | (simp; done) | (simp; done)) (by first | rfl | (simp; done) | (simp; rfl)) ?_
    simp
    rcases (show idAt id l = -1 ∨ ∃ i, i < l.length ∧ idAt id l = (i : Nat) from posI_cases _ l) with h1 | ⟨i, hi, h1⟩
    · have e : getV l id x = zeroV := by
        unfold getV nodeV
        rw [if_pos (by omega)]
        rfl
      simp [h1, e]
      rfl
    · have e : nodeV l id = l[i] := by
        unfold nodeV
        rw [if_neg (by omega), show (idAt id l).toNat = i by omega, ← nd_at hi]
      have hm := List.getElem_mem hi
      have ht := nodB_tree (storeB_nod h hm)
      have hsm := small_list (hs _ hm)
      have hlen := nods_len l
      have hfit : i * 7 + 7 ≤ l.length * 7 := by omega
      have ni : ¬ (i : Int) < 0 := by omega
      have hv := nods_val l hi
      have e2 : getV l id x = cellV l[i].val x := by unfold getV; rw [e]
      simp [h1, hi, hlen, hfit, hv, ni, cells_len]
      repeat refine ⟨DrawT.mk (by kernel_rfl), ?_⟩
      refine CallT.p0 (p_l1Tree l[i].val x ht.1 (by omega) (by omega)) (by first | rfl | (simp; done) | (simp [h1, hi, hlen, hfit, hv, ni, cells_len]; done)) (by first | rfl | (simp; done) | (simp; rfl)) ?_
      simp [h1, hi, hlen, hfit, hv, ni, cells_len]
      repeat refine ⟨DrawT.mk (by kernel_rfl), ?_⟩
      refine CallT.p0 (p_l1Copy (cellV l[i].val x) (e2 ▸ getV_small hs id x)) (by first | rfl | (simp; done) | (simp [h1, hi, hlen, hfit, hv, ni, cells_len]; done)) (by first | rfl | (simp; done) | (simp; rfl)) ?_
      simp [h1, hi, hlen, hfit, hv, ni, cells_len]
      rw [e2]
  refine PCall.by_ (md := []) Try.func9 rfl (by kernel_rfl) (n := 15) Try.ntmps9 (by simp) (by decide) rfl ?_
  simp
  repeat refine ⟨DrawT.mk (by kernel_rfl), ?_⟩
  refine CallT.p0 (p_specStoreOk l hl hok) (by first | rfl | (simp; done) | (simp; done)) (by first | rfl | (simp; done) | (simp; rfl)) ?_
  simp
  by_cases h : storeB l = true
  · simp [h]
    repeat refine ⟨DrawT.mk (by kernel_rfl), ?_⟩
    refine CallT.p0 (hget h) (by first | rfl | (simp; done) | (simp; done)) (by first | rfl | (simp; done) | (simp; rfl)) ?_
    simp [ h, cells_len]
  · have h : storeB l = false := by simpa using h
    simp [h]
    rfl
end Go.Proofs.Ytghbkljdpikpdaa
