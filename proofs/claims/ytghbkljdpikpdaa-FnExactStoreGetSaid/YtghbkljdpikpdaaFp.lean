/- Is a store ok: the program's way. -/
import Derived.Test.YtghbkljdpikpdaaFo
set_option linter.unusedVariables false
set_option linter.unusedSimpArgs false
set_option maxRecDepth 100000
namespace Go.Proofs.Ytghbkljdpikpdaa
open Go.Sh
variable {gl : Nat → Option D}
theorem cells_at0 (v : Val) (h : 0 < v.cells.length) : v.cells[0] = dI v.kind := by cases v; rfl
set_option maxHeartbeats 1000000 in
theorem p_nodeOk (n : Nod) (hn : NodOk n) : PCall Try.prog gl 77 [n.d] (dB (nodB n)) := by
  refine PCall.by_ (md := []) Try.func77 rfl (by kernel_rfl) (n := 27) Try.ntmps77 (by simp) (by decide) rfl ?_
  simp [Nod.cells, cells_len]
  refine BrT.dec (fun h => ?_) (fun h => ?_)
  case refine_2 => simp [h, nodB, inB]
  simp [h, Nod.cells, cells_len]
  refine BrT.dec (fun h2 => ?_) (fun h2 => ?_)
  case refine_2 => simp [h, h2, nodB, inB]
  simp [h, h2, Nod.cells, cells_len]
  refine CallT.p (p_isName _ hn.1) rfl rfl ?_
  simp [h, h2, Nod.cells, cells_len]
  refine BrT.mk (fun h3 => ?_) (fun h3 => ?_)
  case refine_2 => simp [h, h2, h3, nodB, inB]
  simp [h, h2, h3, Nod.cells, cells_len, cells_at0]
  refine BrT.dec (fun h4 => ?_) (fun h4 => ?_)
  case refine_2 => simp [h, h2, h3, h4, nodB, inB]
  simp [h, h2, h3, h4, Nod.cells, cells_len]
  refine CallT.p (p_fitsIn _ hn.2 4 false (by omega) (by omega)) rfl (by simp) ?_
  simp [h, h2, h3, h4, nodB, inB, Nod.cells, cells_len]

/-- The table's rows. -/
def Tab (S : St) (b : Nat) (l : List Nod) : Prop :=
  (l = [] ∧ S.B b = some [.fl [] 0, .fl [] 0]) ∨
  (∃ j k, ¬ j = k ∧ j < S.nx ∧ k < S.nx ∧ S.B b = some [.tp j 0 (l.map fun n => dI n.id) l.length, .tp k 0 (nodsCells l) l.length] ∧ S.T j = some (l.length, 1) ∧ S.T k = some (l.length, 7) ∧ l ≠ [])
theorem Tab.mono {S S' : St} {b : Nat} {l : List Nod} (h : Tab S b l) (hB : S'.B b = S.B b) (hT : S'.T = S.T) (hn : S.nx ≤ S'.nx) : Tab S' b l := by
  rcases h with ⟨h1, h2⟩ | ⟨j, k, h1, h2, h3, h4, h5, h6, h7⟩
  · exact .inl ⟨h1, hB.trans h2⟩
  · exact .inr ⟨j, k, h1, by omega, by omega, hB.trans h4, by rw [hT]; exact h5, by rw [hT]; exact h6, h7⟩
def lastLess (l : List Nod) (id : Int) : Bool := match l.getLast? with | some n => decide (n.id < id) | none => true

theorem p_put (S : St) (b : Nat) (l : List Nod) (n : Nod) (hT : Tab S b l) (hgl : S.gl = gl) (hb : b < S.nx) (hl : l.length ≤ 12) :
    ∃ S', LCall Try.prog 78 [.op b 0, .d (dI n.id), .ag (n.cells.map .d)] S (.d (dB (lastLess l n.id))) S' ∧ Tab S' b (l ++ [n]) := by
  have ne : ∀ k, S.nx ≤ k → ¬ b = k := fun k => by omega
  have ne2 : ∀ k, S.nx ≤ k → ¬ k = b := fun k => by omega
  have d1 : appBound 0 1 8 := by decide
  have d2 : appBound 0 1 104 := by decide
  rcases hT with ⟨rfl, hB⟩ | ⟨j, k, hjk, hj, hk, hB, hTj, hTk, hne⟩
  · refine ⟨leftS S 49 [(b, [.tp (S.nx + 2 + 23 + 7) 0 [dI n.id] 1, .tp (S.nx + 2 + 23 + 11 + 7) 0 n.cells 1])] [(S.nx + 2 + 23 + 7, (1, 1)), (S.nx + 2 + 23 + 11 + 7, (1, 7))], ?_, ?_⟩
    · refine LCall.by_ (md := []) (leftS_keeps _ _ _ _) Try.func78 rfl (by kernel_rfl) (n := 51) Try.ntmps78 (by simp) (by decide) rfl ?_
      simp [hB, Nod.cells, cells_len, ne, ne2, d1, d2]
      refine ⟨DrawT.mk (by kernel_rfl), DrawT.mk (by kernel_rfl), rfl, ?_⟩
      refine less_left ?_ ?_ ?_ ?_ ?_
      · simp
      · simp
      · simp [St.tipTo]
      · intro x hx h1
        simp at h1
        simp [h1, show ¬ x = S.nx by omega]
      · intro x hx h1
        simp [St.tipTo, show ¬ x = S.nx + 43 by omega, show ¬ x = S.nx + 32 by omega]
    · refine .inr ⟨S.nx + 2 + 23 + 7, S.nx + 2 + 23 + 11 + 7, ?_⟩
      refine ⟨by omega, by simp [leftS], by simp [leftS], ?_, ?_, ?_, by simp⟩
      · exact leftF_new (by simp [nodsCells])
      · exact leftF_new (by simp)
      · exact leftF_new (by simp)
  · have hj2 : ∀ x, S.nx ≤ x → ¬ j = x := fun x => by omega
    have hk2 : ∀ x, S.nx ≤ x → ¬ k = x := fun x => by omega
    have d3 : appBound l.length 1 8 := by unfold appBound; omega
    have d4 : appBound l.length 1 104 := by unfold appBound; omega
    have hlen := nods_len l
    refine ⟨leftS S 49 [(b, [.tp j 0 ((l ++ [n]).map fun n => dI n.id) (l.length + 1), .tp k 0 (nodsCells (l ++ [n])) (l.length + 1)])] [(j, (l.length + 1, 1)), (k, (l.length + 1, 7))], ?_, ?_⟩
    · refine LCall.by_ (md := []) (leftS_keeps _ _ _ _) Try.func78 rfl (by kernel_rfl) (n := 51) Try.ntmps78 (by simp) (by decide) rfl ?_
      obtain ⟨l', m, e⟩ : ∃ l' m, l = l' ++ [m] := ⟨l.dropLast, l.getLast hne, (List.dropLast_concat_getLast hne).symm⟩
      have hll : lastLess l n.id = decide (m.id < n.id) := by subst e; simp [lastLess]
      have hl1 : l.length = l'.length + 1 := by subst e; simp
      have w1 : IntKind.i64.wrap ((l.length : Int) - 1) = (l'.length : Int) := by rw [wrap64 (by omega) (by omega)]; omega
      have hid : (l.map fun n => dI n.id)[l'.length]? = some (dI m.id) := by subst e; simp
      have hlt : l'.length < l.length := by omega
      simp [hB, Nod.cells, cells_len, ne, ne2, d3, d4, hTj, hTk, hne, hll, w1, hid, hlt]
      refine ⟨DrawT.mk (by kernel_rfl), DrawT.mk (by kernel_rfl), ⟨fun c => hjk c.symm, hlen⟩, by subst e; simp, ?_⟩
      have nj : ¬ k = j := fun c => hjk c.symm
      refine less_left ?_ ?_ ?_ ?_ ?_
      · simp
      · simp [nodsCells, Nod.cells]
      · simp [St.tipTo, hjk]
      · intro x hx h1
        simp at h1
        simp [h1, show ¬ x = S.nx by omega]
      · intro x hx h1
        by_cases c1 : x = j
        · simp [c1] at h1
        · by_cases c2 : x = k
          · simp [c1, c2, nj] at h1
          · simp [St.tipTo, c1, c2]
    · refine .inr ⟨j, k, ?_⟩
      refine ⟨hjk, by simp [leftS]; omega, by simp [leftS]; omega, ?_, ?_, ?_, by simp⟩
      · exact leftF_new (by simp)
      · exact leftF_new (by simp)
      · exact leftF_new (by simp [show ¬ k = j by omega])

/-! ### the table of nodes -/
@[simp] theorem nodsCells_nil : nodsCells [] = [] := (rfl)
def tabGo : List Nod → List Nod → List Nod × Bool
  | acc, [] => (acc, true)
  | acc, n :: r => if nodB n = true then if lastLess acc n.id = true then tabGo (acc ++ [n]) r else (acc ++ [n], false) else (acc, false)
def tableL (l : List Nod) : List Nod × Bool := if inB l.length 1 12 && (decide ((nd l 0).id = 0) && decide ((nd l 0).ty = query)) then tabGo [] l else ([], false)
abbrev tabD (l : List Nod) : D := .pp [.ps (l.map fun n => dI n.id) l.length, .ps (nodsCells l) l.length] 0
theorem frz_tab {S : St} {b : Nat} {l : List Nod} (h : Tab S b l) (B : Nat → Option (List SV)) : frzP B 14 0 (S.B b) = some (tabD l) := by
  rcases h with ⟨rfl, hB⟩ | ⟨j, k, hjk, hj, hk, hB, hTj, hTk, hne⟩
  · simp [hB]
  · simp [hB]
theorem putT {S S1 : St} {b : Nat} {l : List Nod} {n : Nod} {cs : List SV} {K : Bool → SV → St → Prop} (hT : Tab S b l) (hB : S1.B b = S.B b) (hST : S1.T = S.T) (hnx : S.nx ≤ S1.nx) (hgl : S1.gl = gl) (hb : b < S1.nx) (hl : l.length ≤ 12)
    (hK : ∀ S2, Tab S2 b (l ++ [n]) → Keeps S1 S2 → K true (.d (dB (lastLess l n.id))) S2) (hcs : cs = n.cells.map .d := by rfl) :
    CallT txtLo Try.prog 78 [.op b 0, .d (dI n.id), .ag cs] S1 K := by
  subst hcs
  obtain ⟨S2, hL, hT2⟩ := p_put S1 b l n (hT.mono hB hST hnx) hgl hb hl
  exact CallT.l hL rfl (hK S2 hT2 hL.2.1)

set_option maxHeartbeats 4000000 in
theorem p_tableOf (l : List Nod) (hl : l.length ≤ 4611686018427387904) (hok : ∀ n ∈ l, NodOk n) : PCall Try.prog gl 35 [nodsD l] (.tup [tabD (tableL l).1, dB (tableL l).2]) := by
  refine PCall.by_ (md := []) Try.func35 rfl (by kernel_rfl) (n := 52) Try.ntmps35 (by simp) (by decide) rfl ?_
  simp
  refine BrT.dec (fun c1 => ?_) (fun c1 => ?_)
  case refine_1 => simp [c1, show tableL l = ([], false) from if_neg (by simp [inB]; omega)]
  simp [c1]
  refine BrT.dec (fun c2 => ?_) (fun c2 => ?_)
  case refine_1 => simp [c1, c2, show tableL l = ([], false) from if_neg (by simp [inB]; omega)]
  have hl0 : 0 < l.length := by omega
  have hid := nods_id l hl0
  have hty := nods_ty l hl0
  simp only [Nat.zero_mul, Nat.zero_add] at hid hty
  simp [c1, c2, hl0, hid, hty]
  refine BrT.dec (fun c3 => ?_) (fun c3 => ?_)
  case refine_2 => simp [c1, c2, hl0, hid, hty, c3, show tableL l = ([], false) from if_neg (by simp [c3])]
  simp [c1, c2, hl0, hid, hty, c3]
  refine BrT.dec (fun c4 => ?_) (fun c4 => ?_)
  case refine_2 => simp [c1, c2, hl0, hid, hty, c3, c4, show tableL l = ([], false) from if_neg (by simp [c4])]
  have hgo : tableL l = tabGo [] l := if_pos (by simp [inB, c3, c4]; omega)
  simp [c1, c2, hl0, hid, hty, c3, c4]
  refine LoopT.round (fun E S => ∃ (i : Nat) (b : Nat), (i ≤ l.length) ∧ E 32 = some (.d (nodsD l)) ∧ E 33 = some (.d (dI l.length)) ∧ E 34 = some (.d (dI i)) ∧ E 4 = some (.op b 0) ∧ (b < S.nx) ∧ (Tab S b (l.take i)) ∧ (tabGo (l.take i) (l.drop i) = tableL l)) (upTo 34 l.length) ⟨0, 3, by simp [c1, c2, hl0, hid, hty, c3, c4, hgo, Tab]⟩ ?_
  rintro E S hk ⟨i, b, hi, h32, h33, h34, h4, hb, hT, hp⟩
  have hn : S.n = 52 := by first | (simpa using hk.n) | (have hh := hk.n; simp [c1, c2, hl0, hid, hty, c3, c4] at hh; exact hh)
  have hg : S.gl = gl := by first | (simpa using hk.gl) | (have hh := hk.gl; simp [c1, c2, hl0, hid, hty, c3, c4] at hh; exact hh)
  have hmd : S.md = [] := by first | (simpa using hk.md) | (have hh := hk.md; simp [c1, c2, hl0, hid, hty, c3, c4] at hh; exact hh)
  simp [c1, c2, hl0, hid, hty, c3, c4, h32, h33, h34, h4, hn, hg, hmd]
  have w : IntKind.i64.wrap ((i : Int) + 1) = (i : Int) + 1 := wrap64 (by omega) (by omega)
  refine BrT.dec (fun h => ?_) (fun h => ?_)
  · have hi2 : i < l.length := by omega
    have hlen := nods_len l
    have hfit : i * 7 + 7 ≤ l.length * 7 := by omega
    have hN := hok _ (List.getElem_mem hi2)
    have hd : l.drop i = l[i] :: l.drop (i + 1) := List.drop_eq_getElem_cons hi2
    rw [hd, tabGo] at hp
    have ne : ∀ k, S.nx ≤ k → ¬ b = k := fun k => by omega
    have ne2 : ∀ k, S.nx ≤ k → ¬ k = b := fun k => by omega
    simp [c1, c2, hl0, hid, hty, c3, c4, h32, h33, h34, h4, hn, hg, hmd, h, ne, ne2, cells_len, Nod.cells, hi2, hlen, hfit, nods_at]
    repeat refine ⟨DrawT.mk (by kernel_rfl), ?_⟩
    refine CallT.p0 (p_nodeOk _ hN) (by first | rfl | (simp; done) | (simp [c1, c2, hl0, hid, hty, c3, c4, h32, h33, h34, h4, hn, hg, hmd, h, ne, ne2, cells_len, Nod.cells]; done)) (by first | rfl | (simp; done) | (simp; rfl)) ?_
    simp [c1, c2, hl0, hid, hty, c3, c4, h32, h33, h34, h4, hn, hg, hmd, h, ne, ne2, cells_len, Nod.cells]
    refine BrT.mk (fun c5 => ?_) (fun c5 => ?_)
    case refine_2 => simp [c1, c2, hl0, hid, hty, c3, c4, h32, h33, h34, h4, hn, hg, hmd, h, ne, ne2, cells_len, Nod.cells, c5, ← hp, frz_tab hT]
    simp [c1, c2, hl0, hid, hty, c3, c4, h32, h33, h34, h4, hn, hg, hmd, h, ne, ne2, cells_len, Nod.cells, c5, Nod.cells]
    rw [if_pos c5] at hp
    refine putT (gl := gl) hT (by simp [c1, c2, hl0, hid, hty, c3, c4, h32, h33, h34, h4, hn, hg, hmd, h, ne, ne2, cells_len, Nod.cells, c5]) rfl (by simp) (by simp [c1, c2, hl0, hid, hty, c3, c4, h32, h33, h34, h4, hn, hg, hmd, h, ne, ne2, cells_len, Nod.cells, c5]) (by simp; omega) (by simp; omega) ?_
    intro S2 hT2 hk2
    have hn2 : S2.n = 52 := by have := hk2.n; simpa [hn] using this
    have hg2 : S2.gl = gl := by have := hk2.gl; simpa [hg] using this
    have hx2 : S.nx ≤ S2.nx := by have := hk2.nx; simp at this; omega
    simp [c1, c2, hl0, hid, hty, c3, c4, h32, h33, h34, h4, hn, hg, hmd, h, ne, ne2, cells_len, Nod.cells, c5, hn2, hg2]
    refine BrT.mk (fun c6 => ?_) (fun c6 => ?_)
    · rw [if_pos c6, ← List.take_succ_eq_append_getElem hi2] at hp
      simp [c1, c2, hl0, hid, hty, c3, c4, h32, h33, h34, h4, hn, hg, hmd, h, ne, ne2, cells_len, Nod.cells, c5, hn2, hg2, c6, w]
      rw [← List.take_succ_eq_append_getElem hi2] at hT2
      exact ⟨⟨i + 1, by omega, rfl, by omega, hT2.mono rfl rfl (by simp), hp⟩, upTo_lt h34 (by simp) hi2⟩
    · rw [if_neg (by simp [c6])] at hp
      simp [c1, c2, hl0, hid, hty, c3, c4, h32, h33, h34, h4, hn, hg, hmd, h, ne, ne2, cells_len, Nod.cells, c5, hn2, hg2, c6, ← hp, frz_tab hT2]
  · rw [List.drop_eq_nil_of_le (by omega), tabGo] at hp
    simp [c1, c2, hl0, hid, hty, c3, c4, h32, h33, h34, h4, hn, hg, hmd, h, ← hp, frz_tab hT]

/-! ### both ways come to the same -/
theorem nd_take {l r : List Nod} {i : Nat} (h : i < l.length) : nd (l ++ r) i = nd l i := by
  unfold nd; simp [List.getElem?_append_left h]
theorem nd_last (l : List Nod) (n : Nod) (r : List Nod) : nd (l ++ n :: r) l.length = n := by
  unfold nd; simp
theorem lastLess_nd {acc : List Nod} {id : Int} : lastLess acc id = (decide (acc.length = 0) || decide ((nd acc (acc.length - 1)).id < id)) := by
  rcases List.eq_nil_or_concat acc with rfl | ⟨l', m, rfl⟩
  · simp [lastLess]
  · simp [lastLess, nd]
theorem nodP_step {acc : List Nod} {n : Nod} {r : List Nod} : nodP (acc ++ n :: r) acc.length = (nodB n && lastLess acc n.id) := by
  rw [lastLess_nd]
  unfold nodP
  rw [nd_last]
  by_cases h : acc.length = 0
  · simp [h]
  · rw [nd_take (by omega)]
    simp [h]
    congr 1
    rw [Bool.eq_iff_iff]; simp
theorem tabGo_eq : ∀ (r acc : List Nod), (∀ j, j < acc.length → nodP (acc ++ r) j = true) → (tabGo acc r).2 = allTo (nodP (acc ++ r)) (acc ++ r).length ∧ ((tabGo acc r).2 = true → (tabGo acc r).1 = acc ++ r)
  | [], acc, h => by
    simp only [List.append_nil] at h ⊢
    exact ⟨(allTo_true h).symm, fun _ => rfl⟩
  | n :: r, acc, h => by
    have hs := nodP_step (acc := acc) (n := n) (r := r)
    have hlt : acc.length < (acc ++ n :: r).length := by simp
    simp only [tabGo]
    by_cases h1 : nodB n = true
    · rw [if_pos h1]
      by_cases h2 : lastLess acc n.id = true
      · rw [if_pos h2]
        have := tabGo_eq r (acc ++ [n])
        simp only [List.append_assoc, List.singleton_append] at this
        refine this (fun j hj => ?_)
        rcases Nat.lt_or_ge j acc.length with h3 | h3
        · exact h j h3
        · have : j = acc.length := by simp at hj; omega
          subst this
          rw [hs, h1, h2]; rfl
      · rw [if_neg h2]
        rw [allTo_false hlt (by rw [hs]; simp [h2])]
        exact ⟨rfl, fun e => by simp at e⟩
    · rw [if_neg h1]
      rw [allTo_false hlt (by rw [hs]; simp [h1])]
      exact ⟨rfl, fun e => by simp at e⟩
theorem tableL_eq (l : List Nod) : (tableL l).2 = storeB l ∧ ((tableL l).2 = true → (tableL l).1 = l) := by
  unfold tableL storeB
  have := tabGo_eq l [] (fun j hj => by simp at hj)
  simp only [List.nil_append] at this
  split
  · rename_i h
    simp only [Bool.and_eq_true] at h
    rw [this.1, h.1, h.2.1, h.2.2]
    simp only [Bool.and_true, true_and]
    rw [← this.1]; exact this.2
  · rename_i h
    refine ⟨?_, fun e => by simp at e⟩
    simp only [Bool.not_eq_true] at h
    cases h1 : allTo (nodP l) l.length <;> simp_all

theorem szNgo_small : ∀ (l : List Nod) (r : Int), -1 ≤ r → r ≤ 1048576 → 0 ≤ szNgo l r → ∀ n ∈ l, Small n.val
  | [], r, _, _, _, n, hn => by simp at hn
  | x :: t, r, h0, hr, h, n, hn => by
    simp only [szNgo] at h
    have h1 := szN_le x r h0
    split at h
    · omega
    · rcases List.mem_cons.1 hn with rfl | hn
      · have : 0 ≤ szN n r := by omega
        unfold szN at this
        split at this
        · omega
        · split at this
          · omega
          · exact szV_small _ (r - n.ty.size) (by omega) this
      · exact szNgo_small t (szN x r) (by omega) (by omega) h n hn
theorem szNs_small (l : List Nod) (h : 0 ≤ szNs l 1048576) : l.length ≤ 1048576 ∧ ∀ n ∈ l, Small n.val := by
  unfold szNs at h
  split at h
  · omega
  · exact ⟨by omega, szNgo_small l _ (by omega) (by omega) h⟩
end Go.Proofs.Ytghbkljdpikpdaa
