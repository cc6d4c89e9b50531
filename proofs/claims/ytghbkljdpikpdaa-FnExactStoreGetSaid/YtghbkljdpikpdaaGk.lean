/- FnExactStoreGet: the law. -/
import Derived.Test.YtghbkljdpikpdaaGj
import Derived.Test.YtghbkljdpikpdaaGf
set_option linter.unusedVariables false
set_option linter.unusedSimpArgs false
set_option maxRecDepth 100000
namespace Go.Proofs.Ytghbkljdpikpdaa
open Go.Sh
variable {gl : Nat → Option D}
theorem clGl_none (g : Nat) (h : g ≠ cleanAt) : clGl g = none := if_neg h
theorem clGl_some (x : D) (h : clGl cleanAt = some x) : x = .pp [] 0 := by
  unfold clGl at h
  rw [if_pos rfl] at h
  exact (Option.some.inj h).symm
theorem clGl_clean : clGl cleanAt ≠ none := by
  unfold clGl
  rw [if_pos rfl]; simp
/-- What a call that makes memory of its own leaves. -/
structure Grown (S S' : St) (cs : List Sk) : Prop where
  n : S'.n = S.n
  nx : S'.nx = S.nx + cntL cs
  gl : S'.gl = S.gl
  md : S'.md = S.md
  old : ∀ x, x < S.nx → S'.B x = S.B x
  T : S'.T = S.T
  new : At S' S.nx (S.nx + cntL cs) (canL S.nx cs)
theorem Grown.add (S : St) (cs : List Sk) : Grown S (addS S (cntL cs) (newL cs)) cs :=
  ⟨rfl, rfl, rfl, rfl, fun x hx => by rw [addS_B, if_pos hx], rfl, At.added S cs⟩
theorem At.grown {S S' : St} {lo hi : Nat} {cs : List Sk} {a : List Ld} (ha : At S lo hi a) (h : Grown S S' cs) (hh : hi ≤ S.nx) : At S' lo hi a := ha.keep fun b _ h2 => h.old b (by omega)
theorem At.marked {S S' : St} {lo hi : Nat} {V : List (Nat × List SV)} {a : List Ld} (ha : At S lo hi a) (h : Marked S S' V) (hh : hi ≤ S.nx) (hV : ∀ p ∈ V, p.1 < lo ∨ hi ≤ p.1) : At S' lo hi a :=
  ha.keep fun b h1 h2 => h.old b (by omega) (fun hm => by
    obtain ⟨p, hp, rfl⟩ := List.mem_map.1 hm
    have := hV p hp
    omega)
/-- A call that makes a struct, in a frame where pointers may not be compared, of what variables are. -/
theorem call_clean {S : St} {f : FuncId} {ss : List SV} {ds : List D} {cs : List Sk} {n : Nat} (h : FCall Try.prog clGl f ds (.ag (svs (canL 0 cs))) (cntL cs) (newL cs)) (hd : mapO (frzv S.B n) ss = some ds) :
    ∃ S', LCall Try.prog f ss S (.ag (svs (canL S.nx cs))) S' ∧ Grown S S' cs := by
  refine ⟨_, ?_, Grown.add S cs⟩
  have := LCall.ofFc (S := S) clGl_none clGl_some h hd
  simpa using this
theorem call_row {S : St} {f : FuncId} {ss : List SV} {ds : List D} {x : Sk} {n : Nat} {gl : Nat → Option D} (h : FCall Try.prog gl f ds (x.can 0).sv (cntL [x]) (newL [x])) (hg : S.gl = gl) (hd : mapO (frz S.B n) ss = some ds) :
    ∃ S', LCall Try.prog f ss S (x.can S.nx).sv S' ∧ Grown S S' [x] := by
  refine ⟨_, ?_, Grown.add S [x]⟩
  have := LCall.ofF (S := S) (by rw [hg]; exact h) hd
  simpa using this
/-- What lies is the data. -/
theorem At.frz {S : St} {lo hi : Nat} {a : List Ld} (h : At S lo hi a) {k : Nat} (hk : depL (shs a) < k) : mapO (Go.Sh.frz S.B k) (svs a) = some (dataL (shs a)) ∧ mapO (frzv S.B k) (svs a) = some (dataL (shs a)) := frz_lds a k h.has hk
theorem mapO_cons2 {B : Nat → Option (List SV)} {k : Nat} {x : SV} {r : List SV} {y : D} {ys : List D} (h : frzv B k x = some y) (h' : mapO (frzv B k) r = some ys) : mapO (frzv B k) (x :: r) = some (y :: ys) := by
  simp only [mapO, h, h']
/-- Nodes, where they lie, are the nodes. -/
theorem nods_frz {S : St} {lo hi q : Nat} {e : Bool} {l : List Nod} (h : At S lo hi (canL q [skR e l.length (nodsSk e l)])) (he : e = true ∨ l ≠ []) : frz S.B (depL [skR e l.length (nodsSk e l)] + 1) (.os q 0 l.length) = some (nodsD l) ∧ frzv S.B (depL [skR e l.length (nodsSk e l)] + 1) (.os q 0 l.length) = some (nodsD l) := by
  have := h.frz (k := depL [skR e l.length (nodsSk e l)] + 1) (by rw [canL_shs]; omega)
  have e1 : svs (canL q [skR e l.length (nodsSk e l)]) = [.os q 0 l.length] := by
    rcases he with rfl | he
    · simp [canL]
    · rw [skR_pos (fun h => he (List.eq_nil_of_length_eq_zero h))]; simp [canL]
  have e2 : dataL (shs (canL q [skR e l.length (nodsSk e l)])) = [nodsD l] := by
    rw [canL_shs]
    simp only [dataL]
    rw [skR_data (fun h => by rw [List.eq_nil_of_length_eq_zero h]; rfl), nodsSk_data]
  rw [e1, e2] at this
  simp only [mapO] at this
  constructor
  · have := this.1
    split at this
    · rename_i h1 h2; simp at this h2; rw [h1, this.1]
    · cases this
  · have := this.2
    split at this
    · rename_i h1 h2; simp at this h2; rw [h1, this.1]
    · cases this
theorem val_frz {S : St} {lo hi q : Nat} {e : Bool} {v : Val} (h : At S lo hi (canL q (v.sk e))) : frz S.B (depL (v.sk e) + 2) (.ag (svs (canL q (v.sk e)))) = some v.d := by
  have := (h.frz (k := depL (v.sk e) + 1) (by rw [canL_shs]; omega)).1
  rw [canL_shs, sk_data] at this
  exact frz_ag' this
theorem small_wf : ∀ v : Val, Small v → WF v
  | .mk k n t l ns, .mk ht hn hns hl hwf => .mk (by omega) ⟨by omega, fun s hs => by have := hns s hs; omega⟩ (by omega) fun v hv =>
    have := List.sizeOf_lt_of_mem hv
    small_wf v (hwf v hv)
termination_by v => SizeOf.sizeOf v
decreasing_by
  simp_wf
  omega
theorem CallT_gen {P : Program} {S : St} {lo : Lo} {f : FuncId} {ss : List SV} {K : Bool → SV → St → Prop} {Q : St → Prop} (hQ : Q S) (h : ∀ S', Q S' → CallT lo P f ss S' K) : CallT lo P f ss S K := h S hQ
theorem cntNm_le (l : List ByteArray) (r : Int) (h : -1 ≤ r) (h0 : 0 ≤ szNames l r) : (l.length : Int) ≤ r - szNames l r := by
  unfold szNames at h0 ⊢
  split at h0
  · omega
  · rename_i h1
    rw [if_neg h1]
    have := szGo_le l (r - l.length) (by omega)
    omega
mutual
theorem cntV_le : ∀ (v : Val) (r : Int), -1 ≤ r → 0 ≤ szV v r → (cntV v : Int) ≤ 3 + 3 * (r - szV v r)
  | .mk k n t l ns, r, h, h0 => by
    simp only [szV] at h0 ⊢
    split at h0
    · omega
    · rename_i h1
      rw [if_neg h1]
      split at h0
      · omega
      · rename_i h2
        rw [if_neg h2]
        split at h0
        · omega
        · rename_i h3
          rw [if_neg h3]
          have a := cntVs_le l (r - t.size) (by omega) (by omega)
          have b := cntNm_le ns (szVs l (r - t.size)) (by omega) (by omega)
          simp only [cntV]
          omega
theorem cntVs_le : ∀ (l : List Val) (r : Int), -1 ≤ r → 0 ≤ szVs l r → (cntVs l : Int) ≤ 3 * (r - szVs l r)
  | l, r, h, h0 => by
    simp only [szVs] at h0 ⊢
    split at h0
    · omega
    · rename_i h1
      rw [if_neg h1]
      have := cntVgo_le l (r - l.length) (by omega) h0
      omega
theorem cntVgo_le : ∀ (l : List Val) (r : Int), -1 ≤ r → 0 ≤ szVgo l r → (cntVs l : Int) ≤ 3 * l.length + 3 * (r - szVgo l r)
  | [], r, h, h0 => by simp only [cntVs, szVgo, List.length_nil]; omega
  | v :: l, r, h, h0 => by
    simp only [szVgo] at h0 ⊢
    split at h0
    · omega
    · rename_i h1
      rw [if_neg h1]
      have a := cntV_le v r h (by omega)
      have b := cntVgo_le l (szV v r) (by omega) h0
      have c := szV_le v r h
      simp only [cntVs, List.length_cons]
      omega
end
theorem cntN_le : ∀ (n : Nod) (r : Int), -1 ≤ r → 0 ≤ szN n r → (cntN n : Int) ≤ 5 + 3 * (r - szN n r)
  | ⟨id, ty, v⟩, r, h, h0 => by
    unfold szN at h0 ⊢
    simp only at h0 ⊢
    split at h0
    · omega
    · rename_i h1
      rw [if_neg h1]
      split at h0
      · omega
      · rename_i h2
        rw [if_neg h2]
        have a := cntV_le v (r - ty.size) (by omega) (by omega)
        cases v with
        | mk k m t l ns => simp only [cntN, cntV] at a ⊢; omega
theorem cntNgo_le : ∀ (l : List Nod) (r : Int), -1 ≤ r → 0 ≤ szNgo l r → (cntNs l : Int) ≤ 5 * l.length + 3 * (r - szNgo l r)
  | [], r, h, h0 => by simp only [cntNs, szNgo, List.length_nil]; omega
  | v :: l, r, h, h0 => by
    simp only [szNgo] at h0 ⊢
    split at h0
    · omega
    · rename_i h1
      rw [if_neg h1]
      have a := cntN_le v r h (by omega)
      have b := cntNgo_le l (szN v r) (by omega) h0
      simp only [cntNs, List.length_cons]
      omega
theorem cntNs_small (l : List Nod) (h : 0 ≤ szNs l 1048576) : cntNs l ≤ 10485760 := by
  unfold szNs at h
  split at h
  · omega
  · have := cntNgo_le l (1048576 - l.length) (by omega) h
    omega
theorem cntV_list {v : Val} {l : List Val} (h : v ∈ l) : cntV v ≤ cntVs l := by
  induction l with
  | nil => simp at h
  | cons w r ih =>
    simp only [cntVs]
    rcases List.mem_cons.1 h with rfl | h
    · omega
    · have := ih h; omega
theorem cntN_list {n : Nod} {l : List Nod} (h : n ∈ l) : cntN n ≤ cntNs l := by
  induction l with
  | nil => simp at h
  | cons w r ih =>
    simp only [cntNs]
    rcases List.mem_cons.1 h with rfl | h
    · omega
    · have := ih h; omega
theorem cntN_val : ∀ n : Nod, cntVs n.val.list ≤ cntN n
  | ⟨_, _, .mk _ _ _ l ns⟩ => by simp only [cntN, Val.list]; omega
theorem cnt_get (l : List Nod) (id : Int) (x : ByteArray) : cntV (getV l id x) ≤ 3 + cntNs l := by
  have h1 : cntVs (nodeV l id).val.list ≤ cntNs l := by
    rcases nodeV_cases l id with h | h
    · rw [h]; exact Nat.zero_le _
    · have := cntN_list h
      have := cntN_val (nodeV l id)
      omega
  unfold getV cellV
  split
  · simp [zeroV, cntV, cntVs]
  · by_cases h : (idxI x (nodeV l id).val.names).toNat < (nodeV l id).val.list.length
    · rw [val_at h]
      have := cntV_list (List.getElem_mem h)
      omega
    · rw [vl, List.getD_eq_getElem?_getD, List.getElem?_eq_none (by omega)]
      have : cntV (none.getD default) = 3 := rfl
      omega
theorem markRow_sh {e : Bool} {l : List Val} {X : Ld} (hX : X.sh = skR e l.length (valsSk e l)) (q : Nat) : (rowMap (fun cs => markLds l cs q) X).sh = skR e (markVs l q).length (valsSk e (markVs l q)) := by
  rcases ld_row hX with ⟨rfl, h0, he⟩ | ⟨b, cs, rfl, h1, he⟩
  · have : l = [] := List.eq_nil_of_length_eq_zero h0
    subst this; subst he
    simp [markVs, Ld.sh]
  · simp only [rowMap_row, Ld.sh, (markLds_sh l cs q h1).1, markVs_len]
    unfold skR
    rw [if_neg (fun hh => by have := he hh.1; rw [hh.2] at this; cases this)]
theorem markNm_sh {e : Bool} {ns : List ByteArray} {Y : Ld} (hY : Y.sh = skS e ns) (q : Nat) : (markNm Y q).sh = skS e (marks q ns.length) := by
  rcases ld_names hY with ⟨rfl, rfl⟩ | ⟨b, rfl, he⟩
  · have he : e = false := by
      cases e with
      | false => rfl
      | true => simp [Ld.sh, skS] at hY
    subst he
    simp [markNm, Ld.sh, skS, marks]
  · simp only [markNm, Ld.sh, ldT_sh, skS, marks_len]
    unfold skR
    rw [if_neg (fun hh => by have := he (List.eq_nil_of_length_eq_zero hh.1); rw [hh.2] at this; cases this)]
/-- What the law knows of its state: u: the variable of what was given back. -/
structure GetI (S : St) (u N K1 K2 : Nat) (g : Val) (cx cg : List Ld) : Prop where
  n : S.n = 82
  w : S.B 16 = some (g.cells.map .d)
  o : S.B u = some (svs cg)
  x : At S 21 (21 + K1) cx
  g : At S N (N + K2) cg
  nx : N + K2 ≤ S.nx
  hu : u = 25 + K1
  hN : N = 27 + K1
theorem GetI.mono {S S' : St} {u N K1 K2 : Nat} {g : Val} {cx cg : List Ld} (h : GetI S u N K1 K2 g cx cg) (hn : S'.n = S.n) (hB : S'.B = S.B) (hx : S.nx ≤ S'.nx) : GetI S' u N K1 K2 g cx cg :=
  ⟨hn.trans h.n, by rw [hB]; exact h.w, by rw [hB]; exact h.o, h.x.mono hB, h.g.mono hB, Nat.le_trans h.nx hx, h.hu, h.hN⟩
theorem GetI.grown {S S' : St} {u N K1 K2 : Nat} {g : Val} {cg : List Ld} {sk : List Sk} (h : GetI S u N K1 K2 g [] cg) (hg : Grown S S' sk) : GetI S' u N K1 K2 g [] cg := by
  have a := h.hu; have b := h.hN; have c := h.nx
  exact ⟨hg.n.trans h.n, by rw [hg.old 16 (by omega)]; exact h.w, by rw [hg.old u (by omega)]; exact h.o, .nil, h.g.grown hg (by omega), by rw [hg.nx]; omega, a, b⟩
theorem GetI.setn {S S' : St} {u N K1 K2 q : Nat} {g : Val} {cg : List Ld} {c1 : List SV} (h : GetI S u N K1 K2 g [] cg) (hn : S'.n = S.n) (hq : N + K2 ≤ q) (hB : S'.B = upd S.B q c1) (hx : S.nx ≤ S'.nx) : GetI S' u N K1 K2 g [] cg := by
  have a := h.hu; have b := h.hN
  exact ⟨hn.trans h.n, by rw [hB, upd_ne _ _ (by omega)]; exact h.w, by rw [hB, upd_ne _ _ (by omega)]; exact h.o, .nil, h.g.skip (.inr hq) hB, Nat.le_trans h.nx hx, a, b⟩
set_option maxHeartbeats 4000000 in
theorem p_lawStoreGet (l : List Nod) (id : Int) (x : ByteArray) (hl : l.length ≤ 4611686018427387904) (hok : ∀ n ∈ l, NodOk n) (hx : x.size ≤ 4611686018427387904) : PCall Try.prog gl 3 [nodsD l, dI id, dS x] (dB true) := by
  refine PCall.by_ (md := []) Try.func3 rfl (by kernel_rfl) (n := 82) Try.ntmps3 (by simp) (by decide) rfl ?_
  simp
  refine BrT.dec (fun c => ?_) (fun c => ?_)
  case refine_1 => simp [c]
  simp [c]
  repeat refine ⟨DrawT.mk (by kernel_rfl), ?_⟩
  refine CallT.p0 (p_szNodeS l hl hok 1048576 (by omega) (by omega)) (by first | rfl | (simp; done) | (simp [c]; done)) (by first | rfl | (simp; done) | (simp; rfl)) ?_
  simp [c]
  refine BrT.dec (fun c2 => ?_) (fun c2 => ?_)
  case refine_1 => simp [c, c2]
  have hs := szNs_small l (Int.not_lt.1 c2)
  simp [c, c2]
  repeat refine ⟨DrawT.mk (by kernel_rfl), ?_⟩
  refine CallT.p0 (p_toNodeS l hs.1 hs.2) (by first | rfl | (simp; done) | (simp [c, c2]; done)) (by first | rfl | (simp; done) | (simp; rfl)) ?_
  simp [c, c2]
  repeat refine ⟨DrawT.mk (by kernel_rfl), ?_⟩
  refine CallT.p0 (p_spStoreGet l id x hl hok hs.2) (by first | rfl | (simp; done) | (simp [c, c2]; done)) (by first | rfl | (simp; done) | (simp; rfl)) ?_
  simp [c, c2]
  generalize hg : (if storeB l = true then getV l id x else zeroV) = g
  have hgs : Small g := by
    rw [← hg]; split
    · exact getV_small hs.2 id x
    · exact small_zero
  have hgw := small_wf g hgs
  refine ⟨cells_len g, CallT_ex (call_row (n := 40) (g_toNodeS l hs.1 hs.2) (by rfl) (by rfl)) (fun S1 h1 => ?_)⟩
  have b16 : S1.B 16 = some (g.cells.map .d) := by rw [h1.old 16 (by simp)]; simp
  have n1 : S1.n = 82 := by rw [h1.n]; simp
  have hat1 := h1.new
  simp only [St.adv, St.set, St.new, startS, Nat.reduceAdd] at hat1
  generalize hK1 : cntL [skR true l.length (nodsSk true l)] = K1 at *
  have nx1 : S1.nx = 21 + K1 := by rw [h1.nx, hK1]; simp
  simp [c, c2, n1]
  refine CallT_ex (call_clean (n := depL [skR true l.length (nodsSk true l)] + 1) (g_StoreGet clGl_clean l id x hl hok hs.2) (mapO_cons2 (nods_frz hat1 (.inl rfl)).2 (by rfl))) (fun S2 h2 => ?_)
  rw [hg] at h2
  simp only [hg]
  have b16' : S2.B 16 = some (g.cells.map .d) := by rw [h2.old 16 (by simp; omega)]; exact b16
  have n2 : S2.n = 82 := by rw [h2.n]; simpa using n1
  have hat2 := (hat1.mono (S' := S1.adv 6) rfl).grown h2 (by simp; omega)
  have hatg := h2.new
  obtain ⟨N, hN⟩ : ∃ N, (S1.adv 6).nx = N := ⟨_, rfl⟩
  obtain ⟨K2, hK2⟩ : ∃ K2, cntL (g.sk false) = K2 := ⟨_, rfl⟩
  have nx2 : S2.nx = N + K2 := by rw [h2.nx, hN, hK2]
  rw [hN, hK2] at hatg
  simp only [hN]
  have hN' : N = 21 + K1 + 6 := by rw [← hN]; simp [nx1]
  obtain ⟨u, hu⟩ : ∃ u, S1.nx + 4 = u := ⟨_, rfl⟩
  have hu' : u = 25 + K1 := by omega
  have u16 : ¬ 16 = u := by omega
  have u16' : ¬ u = 16 := by omega
  simp [c, c2, n1, n2, b16', u16, u16', hu, cells_len]
  refine CallT_gen (Q := fun S => GetI S u N K1 K2 g (canL 21 [skR true l.length (nodsSk true l)]) (canL N (g.sk false))) ⟨by simp [n2], by simp [u16, b16'], by simp, hat2.keep (fun b h1 h2 => by ((try simp); (repeat first | rw [if_neg (by omega)] | rw [if_pos (by omega)]); (try (intro h; exfalso; omega)))), hatg.keep (fun b h1 h2 => by ((try simp); (repeat first | rw [if_neg (by omega)] | rw [if_pos (by omega)]); (try (intro h; exfalso; omega)))), by simp [nx2], hu', by omega⟩ (fun S3 I3 => ?_)
  refine CallT.l (LCall.ofP (k := depL (g.sk false) + 2) (p_eqValue g hgw) (mapO_cons' (val_frz I3.g) (mapO_cons' (frz_ag' (mapO_d' _ _)) rfl))) rfl ?_
  have n3 := I3.n
  simp [c, c2, n1, n2, b16', u16, u16', hu, cells_len, n3]
  repeat refine ⟨DrawT.mk (by kernel_rfl), ?_⟩
  refine CallT.p0 (p_toNodeS l hs.1 hs.2) (by first | rfl | (simp; done) | (simp [c, c2, n1, n2, b16', u16, u16', hu, cells_len, n3]; done)) (by first | rfl | (simp; done) | (simp; rfl)) ?_
  simp [c, c2, n1, n2, b16', u16, u16', hu, cells_len, n3]
  refine CallT.l (LCall.ofP (k := depL [skR true l.length (nodsSk true l)] + 1) (p_eqNodeS l hl hok) (mapO_cons' (nods_frz (I3.x.mono (S' := S3.adv 5) rfl) (.inl rfl)).1 (mapO_cons' (frz_d' _ _) rfl))) rfl ?_
  simp [c, c2, n1, n2, b16', u16, u16', hu, cells_len, n3]
  have hcn := cntNs_small l (Int.not_lt.1 c2)
  have hat3 : At (((S3.adv 5).adv 1).adv 4) 0 (((S3.adv 5).adv 1).adv 4).nx [.row none 21 l.length (canL 22 (nodsSk true l))] := by
    have h := (I3.x.mono (S' := ((S3.adv 5).adv 1).adv 4) rfl).le (lo' := 0) (hi' := (((S3.adv 5).adv 1).adv 4).nx) (by omega) (by have := I3.nx; have := I3.hN; simp; omega)
    simpa [canL, Sk.can] using h
  have hids := (markNdsL_sh l (canL 22 (nodsSk true l)) 1 (canL_shs _ _)).2
  have hnd : (((21, svs (markNdsL l (canL 22 (nodsSk true l)) 1)) :: varsL (markNdsL l (canL 22 (nodsSk true l)) 1)).map (fun p => p.1)).Nodup := by
    have := hat3.nodup
    simp only [varsL, Ld.vars, List.append_nil, List.map_cons] at this
    simp only [ids] at hids
    simp only [List.map_cons, hids]
    exact this
  have hrV : ∀ x, x ∈ ((21, svs (markNdsL l (canL 22 (nodsSk true l)) 1)) :: varsL (markNdsL l (canL 22 (nodsSk true l)) 1)).map (fun p => p.1) → 21 ≤ x ∧ x < 21 + K1 := fun x hx => by
    have h := I3.x.rng
    simp only [skR_true, canL, Sk.can, varsL, Ld.vars, List.append_nil, List.forall_mem_cons] at h
    simp only [ids] at hids
    simp only [List.map_cons, hids, List.mem_cons] at hx
    rcases hx with rfl | hx
    · exact h.1
    · obtain ⟨p, hp, rfl⟩ := List.mem_map.1 hx
      exact h.2 p hp
  refine CallT_ex (Q := fun S' => Marked (((S3.adv 5).adv 1).adv 4) S' ((21, svs (markNdsL l (canL 22 (nodsSk true l)) 1)) :: varsL (markNdsL l (canL 22 (nodsSk true l)) 1))) ⟨_, l_markNodeS true l _ 21 1 (canL 22 (nodsSk true l)) (canL_shs _ _) hat3 (by omega) (by omega), Marked.left hnd⟩ (fun S4 h4 => ?_)
  have hnx3 := I3.nx
  have hNN := I3.hN
  have huu := I3.hu
  have I4 : GetI S4 u N K1 K2 g [] (canL N (g.sk false)) := by
    refine ⟨h4.n.trans (by simpa using n3), ?_, ?_, .nil, ?_, ?_, huu, hNN⟩
    · rw [h4.old 16 (by simp; omega) (fun h => by have := hrV _ h; omega)]; exact I3.w
    · rw [h4.old u (by simp; omega) (fun h => by have := hrV _ h; omega)]; exact I3.o
    · exact (I3.g.mono (S' := ((S3.adv 5).adv 1).adv 4) rfl).marked h4 (by simp; omega) (fun p hp => by have := hrV p.1 (List.mem_map_of_mem hp); omega)
    · rw [h4.nx]; simp; omega
  have n4 := I4.n
  have w4 := I4.w
  have o4 := I4.o
  have k0 : ¬ ((1 : Int) + cntNs l < 0) := by omega
  simp [c, c2, n1, n2, b16', u16, u16', hu, cells_len, n3, n4, w4, o4, k0]
  refine CallT.l (LCall.ofP (k := depL (g.sk false) + 2) (p_eqValue g hgw) (mapO_cons' (val_frz (I4.g.mono (S' := S4.adv 8) rfl)) (mapO_cons' (frz_ag' (mapO_d' _ _)) rfl))) rfl ?_
  simp [c, c2, n1, n2, b16', u16, u16', hu, cells_len, n3, n4, w4, o4, k0]
  obtain ⟨k, m, t, lv, ns, hge⟩ : ∃ k m t lv ns, g = .mk k m t lv ns := by
    cases g with
    | mk k m t lv ns => exact ⟨k, m, t, lv, ns, rfl⟩
  obtain ⟨X, Y, rest, hXY, hX, hY, hr⟩ := ld_val (e := false) (k := k) (n := m) (t := t) (l := lv) (ns := ns) (cs := canL N (g.sk false)) (r := []) (by rw [canL_shs, hge]; simp)
  have hr0 : rest = [] := by cases rest with
    | nil => rfl
    | cons x r => simp [shs] at hr
  subst hr0
  have hsv : svs (canL N (g.sk false)) = [.d (dI k), .d (dI m), .d (dS t), X.sv, Y.sv] := by rw [hXY]; rfl
  have hcg : cntVs lv + ns.length ≤ 10485760 := by
    have h1 : cntV g ≤ 3 + cntNs l := by
      rw [← hg]; split
      · exact cnt_get l id x
      · simp [zeroV, cntV, cntVs]
    rw [hge] at h1
    simp only [cntV] at h1
    omega
  have hatg4 := I4.g
  rw [hXY] at hatg4
  have hgr := hatg4.rng
  have hgn := hatg4.nodup
  have hgh := hatg4.has
  have evg : varsL [.d (.int .i64 k), .d (.int .i64 m), .d (.string t), X, Y] = X.vars ++ Y.vars := by simp [varsL, Ld.vars]
  rw [evg] at hgr hgn hgh
  simp only [hsv]
  have hgn1 : ((X.vars ++ Y.vars).map (fun p => p.1)).Nodup := hgn
  refine CallT_ex (Q := fun S' => Marked (((S4.adv 8).adv 1).adv 4) S' (markW lv ns X Y 1)) ⟨_, l_markValue false k m t lv ns X Y hX hY _ 1 (by omega) (by omega) (fun p hp => ⟨hgh p hp, by have := hgr p hp; have := I4.nx; simp; omega⟩) hgn1, Marked.left (by rw [markW_ids hX hY]; exact hgn1)⟩ (fun S5 h5 => ?_)
  obtain ⟨cg, hcgd⟩ : ∃ cg : List Ld, cg = [.d (.int .i64 k), .d (.int .i64 m), .d (.string t), rowMap (fun cs => markLds lv cs 1) X, markNm Y (1 + cntVs lv)] := ⟨_, rfl⟩
  have evc : varsL cg = markW lv ns X Y 1 := by rw [hcgd]; simp [varsL, Ld.vars, markW]
  have hcsh : shs cg = (Val.mk k m t (markVs lv 1) (marks (1 + cntVs lv) ns.length)).sk false := by
    rw [hcgd]
    simp only [shs, Ld.sh, markRow_sh hX, markNm_sh hY, Val.sk]
  have hcsv : svs cg = svs (canL N (g.sk false)) := by rw [hsv, hcgd]; simp
  have hrW : ∀ p ∈ markW lv ns X Y 1, N ≤ p.1 ∧ p.1 < N + K2 := fun p hp => by
    have : p.1 ∈ (X.vars ++ Y.vars).map (fun p => p.1) := by rw [← markW_ids hX hY 1]; exact List.mem_map_of_mem hp
    obtain ⟨p', h', e'⟩ := List.mem_map.1 this
    rw [← e']; exact hgr p' h'
  have hrW2 : ∀ x, x ∈ (markW lv ns X Y 1).map (fun p => p.1) → N ≤ x ∧ x < N + K2 := fun x hx => by
    obtain ⟨p, hp, rfl⟩ := List.mem_map.1 hx
    exact hrW p hp
  have hnx4 := I4.nx
  have I5 : GetI S5 u N K1 K2 g [] cg := by
    refine ⟨h5.n.trans (by simpa using n4), ?_, ?_, .nil, ⟨fun p hp => h5.own p (evc ▸ hp), ?_, fun p hp => hrW p (evc ▸ hp)⟩, ?_, huu, hNN⟩
    · rw [h5.old 16 (by simp; omega) (fun h => by have := hrW2 _ h; omega)]; exact I4.w
    · rw [h5.old u (by simp; omega) (fun h => by have := hrW2 _ h; omega), hcsv]; exact I4.o
    · rw [evc, markW_ids hX hY]; exact hgn1
    · rw [h5.nx]; simp; omega
  have n5 := I5.n
  have w5 := I5.w
  have o5 := I5.o
  have svl : (svs cg).length = 5 := by rw [hcgd]; rfl
  have tk : List.take 5 (svs cg) = svs cg := List.take_of_length_le (by omega)
  have hheld : ∀ S, At S N (N + K2) cg → mapO (frz S.B (depL (shs cg) + 2)) [.ag (svs cg), .d (dI 1)] = some [(Val.mk k m t (markVs lv 1) (marks (1 + cntVs lv) ns.length)).d, dI 1] := fun S h => by
    have := (h.frz (k := depL (shs cg) + 1) (by omega)).1
    rw [hcsh, sk_data] at this
    exact mapO_cons' (frz_ag' (by rw [hcsh]; exact this)) (mapO_cons' (r := []) (frz_d' _ _) rfl)
  rw [← hcsv] at hsv
  simp [c, c2, n1, n2, b16', u16, u16', hu, cells_len, n3, n4, w4, o4, k0, n5, w5, o5, svl, tk]
  refine CallT.l (LCall.ofP (k := depL (shs cg) + 2) (p_heldValue k m t lv ns 1 (by omega) (by omega)) (hheld _ (I5.g.mono (S' := (S5.adv 1).adv 4) rfl))) rfl ?_
  have q0 : ¬ ((1 : Int) + cntVs lv + ns.length < 0) := by omega
  simp [c, c2, n1, n2, b16', u16, u16', hu, cells_len, n3, n4, w4, o4, k0, n5, w5, o5, svl, tk, q0]
  refine CallT_ex (call_row (n := 40) (g_toNodeS l hs.1 hs.2) (by rfl) (by rfl)) (fun S6 h6 => ?_)
  have I6 := GetI.grown (I5.mono (by rfl) (by rfl) (by first | (simp; done) | (simp; omega))) h6
  have hat6 := h6.new
  have n6 := I6.n
  have w6 := I6.w
  have o6 := I6.o
  have hnx5 := I5.nx
  have hnx6 : S6.nx = S5.nx + 1 + 4 + 2 + 3 + 7 + K1 := by rw [h6.nx, hK1]; rfl
  simp [c, c2, n1, n2, b16', u16, u16', hu, cells_len, n3, n4, w4, o4, k0, n5, w5, o5, svl, tk, q0, n6, w6, o6]
  refine CallT_ex (call_clean (n := depL [skR true l.length (nodsSk true l)] + 1) (g_StoreGet clGl_clean l id x hl hok hs.2) (mapO_cons2 (nods_frz hat6 (.inl rfl)).2 (by rfl))) (fun S7 h7 => ?_)
  rw [hg] at h7
  simp only [hg]
  have I7 := I6.grown h7
  have hat7 := h7.new
  have n7 := I7.n
  have w7 := I7.w
  have o7 := I7.o
  have hnx7 : S7.nx = S6.nx + K2 := by rw [h7.nx, hK2]
  obtain ⟨q, hq⟩ : ∃ q, S5.nx + 1 + 4 + 2 + 3 + 5 = q := ⟨_, rfl⟩
  have q16 : ¬ 16 = q := by omega
  have qu : ¬ u = q := by omega
  simp [c, c2, n1, n2, b16', u16, u16', hu, cells_len, n3, n4, w4, o4, k0, n5, w5, o5, svl, tk, q0, n6, w6, o6, n7, w7, o7, hq, q16, qu]
  refine CallT_gen (Q := fun S => GetI S u N K1 K2 g [] cg ∧ At S S6.nx (S6.nx + K2) (canL S6.nx (g.sk false))) ⟨(I7.setn (S' := S7.new q zV) (q := q) (c1 := zV) rfl (by omega) rfl (by simp)).setn (q := q) rfl (by omega) rfl (by simp), ?_⟩ (fun S8 I8 => ?_)
  · rw [hK2] at hat7
    exact hat7.keep fun b h1 h2 => by ((try simp); (repeat first | rw [if_neg (by omega)] | rw [if_pos (by omega)]); (try (intro h; exfalso; omega)))
  obtain ⟨I8, hat8⟩ := I8
  refine CallT.l (LCall.ofP (k := depL (g.sk false) + 2) (p_eqValue g hgw) (mapO_cons' (val_frz hat8) (mapO_cons' (frz_ag' (mapO_d' _ _)) rfl))) rfl ?_
  have n8 := I8.n
  have w8 := I8.w
  have o8 := I8.o
  simp [c, c2, n1, n2, b16', u16, u16', hu, cells_len, n3, n4, w4, o4, k0, n5, w5, o5, svl, tk, q0, n6, w6, o6, n7, w7, o7, hq, q16, qu, n8, w8, o8]
  refine CallT.l (LCall.ofP (k := depL (shs cg) + 2) (p_heldValue k m t lv ns 1 (by omega) (by omega)) (hheld _ (I8.g.mono (by rfl)))) rfl ?_
  simp [c, c2, n1, n2, b16', u16, u16', hu, cells_len, n3, n4, w4, o4, k0, n5, w5, o5, svl, tk, q0, n6, w6, o6, n7, w7, o7, hq, q16, qu, n8, w8, o8]
end Go.Proofs.Ytghbkljdpikpdaa
