/- impl.StoreGet, and what it comes to. -/
import Derived.Test.YtghbkljdpikpdaaGd
import Derived.Test.YtghbkljdpikpdaaFp
set_option linter.unusedVariables false
set_option linter.unusedSimpArgs false
set_option maxRecDepth 100000
namespace Go.Proofs.Ytghbkljdpikpdaa
open Go.Sh
variable {gl : Nat → Option D}
def posI {α : Type} (p : α → Bool) (l : List α) : Int := if l.findIdx p < l.length then (l.findIdx p : Int) else -1
theorem posI_found {α : Type} {p : α → Bool} {l : List α} {i : Nat} (hi : i < l.length) (h : ∀ j (hj : j < l.length), j < i → p l[j] = false) (he : p l[i] = true) : posI p l = i := by
  have e : l.findIdx p = i := by
    rw [List.findIdx_eq hi]
    exact ⟨he, fun j hj => h j (by omega) hj⟩
  unfold posI
  rw [e, if_pos hi]
theorem posI_none {α : Type} {p : α → Bool} {l : List α} (h : ∀ j (hj : j < l.length), p l[j] = false) : posI p l = -1 := by
  unfold posI
  rw [if_neg]
  intro hlt
  have := List.findIdx_getElem (w := hlt)
  rw [h _ hlt] at this; cases this
theorem posI_cases {α : Type} (p : α → Bool) (l : List α) : posI p l = -1 ∨ ∃ i, i < l.length ∧ posI p l = i := by
  unfold posI
  split
  · rename_i h; exact .inr ⟨_, h, rfl⟩
  · exact .inl rfl
theorem idxI_cases (x : ByteArray) (l : List ByteArray) : idxI x l = -1 ∨ ∃ i, i < l.length ∧ idxI x l = i := by
  unfold idxI
  split
  · rename_i h; exact .inr ⟨_, h, rfl⟩
  · exact .inl rfl
abbrev idAt (id : Int) (l : List Nod) : Int := posI (fun n => decide (n.id = id)) l
def zeroV : Val := .mk 0 0 ⟨#[]⟩ [] []
def zeroN : Nod := ⟨0, ⟨#[]⟩, zeroV⟩
def Val.list : Val → List Val | .mk _ _ _ l _ => l
def Val.names : Val → List ByteArray | .mk _ _ _ _ ns => ns
def cellV (v : Val) (x : ByteArray) : Val := if idxI x v.names < 0 then zeroV else vl v.list (idxI x v.names).toNat
theorem cellV_mk (k n : Int) (t : ByteArray) (l : List Val) (ns : List ByteArray) (x : ByteArray) : cellV (.mk k n t l ns) x = if idxI x ns < 0 then zeroV else vl l (idxI x ns).toNat := rfl
def nodeV (l : List Nod) (id : Int) : Nod := if idAt id l < 0 then zeroN else nd l (idAt id l).toNat
/-- The cell of a store that is ok. -/
def getV (l : List Nod) (id : Int) (x : ByteArray) : Val := cellV (nodeV l id).val x
theorem zeroV_cells : zeroV.cells = [dI 0, dI 0, dS ⟨#[]⟩, .ps [] 0, .ps [] 0] := rfl
theorem ids_at (l : List Nod) {i : Nat} (hi : i < l.length) : (l.map fun n => dI n.id)[i]? = some (dI l[i].id) := by simp [hi]
set_option maxHeartbeats 1000000 in
theorem p_place (l : List Nod) (id : Int) (hl : l.length ≤ 4611686018427387904) : PCall Try.prog gl 53 [tabD l, dI id] (dI (idAt id l)) := by
  refine PCall.by_ (md := []) Try.func53 rfl (by kernel_rfl) (n := 22) Try.ntmps53 (by simp) (by decide) rfl ?_
  simp
  refine LoopT.round (fun E S => ∃ (i : Nat), (i ≤ l.length) ∧ E 1 = some (.d (dI id)) ∧ E 10 = some (.d (.ps (l.map fun n => dI n.id) l.length)) ∧ E 11 = some (.d (dI l.length)) ∧ E 12 = some (.d (dI i)) ∧ (∀ j (hj : j < l.length), j < i → ¬ l[j].id = id)) (upTo 12 l.length) ⟨0, by simp⟩ ?_
  rintro E S hk ⟨i, hi, h1, h10, h11, h12, hp⟩
  have hn : S.n = 22 := by first | (simpa using hk.n) | (have hh := hk.n; simp at hh; exact hh)
  have hg : S.gl = gl := by first | (simpa using hk.gl) | (have hh := hk.gl; simp at hh; exact hh)
  have hmd : S.md = [] := by first | (simpa using hk.md) | (have hh := hk.md; simp at hh; exact hh)
  simp [h1, h10, h11, h12, hn, hg, hmd]
  have w := wrap64 (n := (i : Int) + 1) (by omega) (by omega)
  refine BrT.dec (fun c => ?_) (fun c => ?_)
  · have hi2 : i < l.length := by omega
    simp [h1, h10, h11, h12, hn, hg, hmd, c, hi2]
    refine BrT.dec (fun e => ?_) (fun e => ?_)
    · simp [h1, h10, h11, h12, hn, hg, hmd, c, e]
      have := posI_found (p := fun n : Nod => decide (n.id = id)) hi2 (fun j hj h => decide_eq_false (hp j hj h)) (decide_eq_true e)
      exact this.symm
    · simp [h1, h10, h11, h12, hn, hg, hmd, c, e, w]
      refine ⟨⟨i + 1, by omega, by omega, fun j hj hji => ?_⟩, upTo_lt h12 (by simp) hi2⟩
      rcases Nat.lt_or_ge j i with c' | c'
      · exact hp j hj c'
      · have : j = i := by omega
        subst this; exact e
  · simp [h1, h10, h11, h12, hn, hg, hmd, c]
    exact (posI_none (p := fun n : Nod => decide (n.id = id)) fun j hj => decide_eq_false (hp j hj (by omega))).symm
set_option maxHeartbeats 1000000 in
theorem p_get (l : List Nod) (id : Int) (hl : l.length ≤ 4611686018427387904) : PCall Try.prog gl 36 [tabD l, dI id] (.tup [(nodeV l id).d, dB (decide (0 ≤ idAt id l))]) := by
  refine PCall.by_ (md := []) Try.func36 rfl (by kernel_rfl) (n := 21) Try.ntmps36 (by simp) (by decide) rfl ?_
  simp
  repeat refine ⟨DrawT.mk (by kernel_rfl), ?_⟩
  refine CallT.p0 (p_place l id hl) (by first | rfl | (simp; done) | (simp; done)) (by first | rfl | (simp; done) | (simp; rfl)) ?_
  simp
  rcases (show idAt id l = -1 ∨ ∃ i, i < l.length ∧ idAt id l = (i : Nat) from posI_cases _ l) with h | ⟨i, hi, h⟩
  · simp [h, nodeV]
    rfl
  · have hlen := nods_len l
    have hfit : i * 7 + 7 ≤ l.length * 7 := by omega
    have e : nodeV l id = l[i] := by
      unfold nodeV
      rw [if_neg (by omega), show (idAt id l).toNat = i by omega, ← nd_at hi]
    have t7 : List.take 7 (List.map SV.d l[i].cells) = l[i].cells.map .d := List.take_of_length_le (by simp [ncells_len])
    simp [h, hi, hlen, hfit, nods_at, ncells_len, e, t7]
theorem p_placeOf (l : List ByteArray) (x : ByteArray) (hl : l.length ≤ 4611686018427387904) : PCall Try.prog gl 56 [namesD l, dS x] (dI (idxI x l)) := by
  refine PCall.by_ (md := []) Try.func56 rfl (by kernel_rfl) (n := 8) Try.ntmps56 (by simp) (by decide) rfl ?_
  simp
  repeat refine ⟨DrawT.mk (by kernel_rfl), ?_⟩
  refine CallT.p0 (p_Index l x hl) (by first | rfl | (simp; done) | (simp; done)) (by first | rfl | (simp; done) | (simp; rfl)) ?_
  simp
set_option maxHeartbeats 1000000 in
theorem p_cellOf (n : Nod) (x : ByteArray) (h1 : n.val.names.length ≤ n.val.list.length) (h2 : n.val.list.length ≤ 4611686018427387904) : PCall Try.prog gl 38 [n.d, dS x] (cellV n.val x).d := by
  obtain ⟨id, ty, v⟩ := n
  cases v with
  | mk k m t l ns =>
    simp only [Val.names, Val.list] at h1 h2
    refine PCall.by_ (md := []) Try.func38 rfl (by kernel_rfl) (n := 20) Try.ntmps38 (by simp) (by decide) rfl ?_
    simp [Nod.cells, Val.cells]
    repeat refine ⟨DrawT.mk (by kernel_rfl), ?_⟩
    refine CallT.p0 (p_placeOf ns x (by omega)) (by first | rfl | (simp; done) | (simp; done)) (by first | rfl | (simp; done) | (simp; rfl)) ?_
    simp
    rcases idxI_cases x ns with h | ⟨i, hi, h⟩
    · simp [h, cellV, Val.names]
      rfl
    · have hlen := valsCells_len l
      have hi2 : i < l.length := by omega
      have hfit : i * 5 + 5 ≤ l.length * 5 := by omega
      have e : cellV (.mk k m t l ns) x = l[i] := by
        rw [cellV_mk, if_neg (by omega), show (idxI x ns).toNat = i by omega, val_at hi2]
      simp [h, hi2, hlen, hfit, valsCells_at, cells_len, e]
/-- What a node of a store that is ok is like. -/
theorem nodB_tree {n : Nod} (h : nodB n = true) : n.val.kind = 5 ∧ n.val.names.length = n.val.list.length := by
  obtain ⟨id, ty, v⟩ := n
  cases v with
  | mk k m t l ns =>
    simp only [nodB, Bool.and_eq_true, decide_eq_true_eq, Val.kind] at h
    obtain ⟨⟨_, hk⟩, ho⟩ := h
    have hk : k = 5 := of_decide_eq_true hk
    subst hk
    simp only [okB, Bool.and_eq_true] at ho
    obtain ⟨⟨⟨⟨_, hp⟩, _⟩, _⟩, _⟩ := ho
    simp [plainB] at hp
    refine ⟨rfl, ?_⟩
    simp only [Val.names, Val.list]
    omega
theorem storeB_nod {l : List Nod} (h : storeB l = true) {n : Nod} (hn : n ∈ l) : nodB n = true := by
  simp only [storeB, Bool.and_eq_true] at h
  obtain ⟨i, hi, rfl⟩ := List.getElem_of_mem hn
  have := allTo_iff.1 h.1.1.1 i hi
  rw [nodP, ← nd_at hi, Bool.and_eq_true] at this
  exact this.1
theorem nodeV_cases (l : List Nod) (id : Int) : nodeV l id = zeroN ∨ nodeV l id ∈ l := by
  unfold nodeV
  rcases (show idAt id l = -1 ∨ ∃ i, i < l.length ∧ idAt id l = (i : Nat) from posI_cases _ l) with h | ⟨i, hi, h⟩
  · exact .inl (if_pos (by omega))
  · right
    rw [if_neg (by omega), show (idAt id l).toNat = i by omega, ← nd_at hi]
    exact List.getElem_mem hi
theorem small_zero : Small zeroV := .mk (by decide) (by simp) (by simp) (by simp) (by simp)
theorem small_list {v : Val} (h : Small v) : v.list.length ≤ 1048576 ∧ ∀ x ∈ v.list, Small x := by
  cases h with
  | mk ht hn hns hl hwf => exact ⟨hl, hwf⟩
theorem getV_small {l : List Nod} (hs : ∀ n ∈ l, Small n.val) (id : Int) (x : ByteArray) : Small (getV l id x) := by
  have h1 : Small (nodeV l id).val := by
    rcases nodeV_cases l id with h | h
    · rw [h]; exact small_zero
    · exact hs _ h
  unfold getV cellV
  split
  · exact small_zero
  · by_cases h : (idxI x (nodeV l id).val.names).toNat < (nodeV l id).val.list.length
    · rw [val_at h]; exact (small_list h1).2 _ (List.getElem_mem h)
    · rw [vl, List.getD_eq_getElem?_getD, List.getElem?_eq_none (by omega)]
      exact small_zero
set_option maxHeartbeats 1000000 in
theorem g_copyValue (hcl : gl cleanAt ≠ none) (v : Val) (hv : Small v) : valF gl 37 false [v.d] v := by
  refine FCall.by_ (md := []) Try.func37 rfl (by kernel_rfl) (n := 5) Try.ntmps37 (by simp) (by decide) rfl ?_
  simp [chD, cells_len]
  repeat refine ⟨DrawT.mk (by kernel_rfl), ?_⟩
  refine CallT.f (n := 40) (g_copyWithin hcl v hv [] (by simp)) (by first | rfl | (simp; done) | (simp [chD, cells_len]; done)) (by first | rfl | kernel_rfl) (by first | rfl | (simp; done) | (simp [chD, cells_len]; done)) ?_
  simp [chD, cells_len]
  exact fin_ag (lo := 5) (At.new fun b h1 h2 => by ((try simp); (repeat first | rw [if_neg (by omega)] | rw [if_pos (by omega)]); (try (intro h; exfalso; omega)))) (canL_shs _ _) rfl
set_option maxHeartbeats 1000000 in
theorem g_StoreGet (hcl : gl cleanAt ≠ none) (l : List Nod) (id : Int) (x : ByteArray) (hl : l.length ≤ 4611686018427387904) (hok : ∀ n ∈ l, NodOk n) (hs : ∀ n ∈ l, Small n.val) :
    valF gl 11 false [nodsD l, dI id, dS x] (if storeB l = true then getV l id x else zeroV) := by
  refine FCall.by_ (md := []) Try.func11 rfl (by kernel_rfl) (n := 29) Try.ntmps11 (by simp) (by decide) rfl ?_
  simp
  repeat refine ⟨DrawT.mk (by kernel_rfl), ?_⟩
  refine CallT.p0 (p_tableOf l hl hok) (by first | rfl | (simp; done) | (simp; done)) (by first | rfl | (simp; done) | (simp; rfl)) ?_
  simp
  obtain ⟨t1, t2⟩ := tableL_eq l
  by_cases h : storeB l = true
  · have t2' := t2 (by rw [t1, h])
    simp [t1, t2', h]
    have t7 : List.take 7 (List.map SV.d (nodeV l id).cells) = (nodeV l id).cells.map .d := List.take_of_length_le (by simp [ncells_len])
    repeat refine ⟨DrawT.mk (by kernel_rfl), ?_⟩
    refine CallT.p0 (p_get l id hl) (by first | rfl | (simp; done) | (simp [t1, t2', h, ncells_len, t7]; done)) (by first | rfl | (simp; done) | (simp; rfl)) ?_
    simp [t1, t2', h, ncells_len, t7]
    have hn : (nodeV l id).val.names.length ≤ (nodeV l id).val.list.length ∧ (nodeV l id).val.list.length ≤ 4611686018427387904 := by
      rcases nodeV_cases l id with e | e
      · rw [e]; decide
      · have := (nodB_tree (storeB_nod h e)).2
        have := (small_list (hs _ e)).1
        omega
    repeat refine ⟨DrawT.mk (by kernel_rfl), ?_⟩
    refine CallT.p0 (p_cellOf (nodeV l id) x hn.1 hn.2) (by first | rfl | (simp; done) | (simp [t1, t2', h, ncells_len, t7]; done)) (by first | rfl | (simp; done) | (simp; rfl)) ?_
    simp [t1, t2', h, ncells_len, t7]
    repeat refine ⟨DrawT.mk (by kernel_rfl), ?_⟩
    refine CallT.f (n := 40) (g_copyValue hcl (getV l id x) (getV_small hs id x)) (by first | rfl | (simp; done) | (simp [t1, t2', h, ncells_len, t7]; done)) (by first | rfl | kernel_rfl) (by first | rfl | (simp; done) | (simp [t1, t2', h, ncells_len, t7]; done)) ?_
    simp [t1, t2', h, ncells_len, t7]
    exact fin_ag (lo := 24) (At.new fun b h1 h2 => by ((try simp); (repeat first | rw [if_neg (by omega)] | rw [if_pos (by omega)]); (try (intro h; exfalso; omega)))) (canL_shs _ _) rfl
  · have h : storeB l = false := by simpa using h
    simp [t1, h]
    exact fin_ag (lo := 0) (hi := 0) (cs := [.d (.int .i64 0), .d (.int .i64 0), .d (.string ⟨#[]⟩), .nil, .nil]) (.cons_d (.cons_d (.cons_d (.cons_nil (.cons_nil .nil))))) rfl rfl
end Go.Proofs.Ytghbkljdpikpdaa
