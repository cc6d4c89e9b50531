/- THE SHADOW, 5: append. Over any program. -/
import Derived.Test.YtghbkljdpikpdaaShD
import Derived.Laws.AppendOwn
set_option linter.unusedVariables false
set_option linter.unusedSimpArgs false
namespace Go.Sh
open Go.RowKit (Below)

section
variable {P : Program} {m0 : Nat → Nat} {w0 : World} {G : Gh} {E : Env} {S : St} {F : Nat → Prop} {a : Act} {w : World} {o : Oper}

/-- The cells of a row that is read. -/
theorem PV.cells {cs : List D} {n : Nat} {u : Value} (h : PV G.mark w (.ps cs n) u) (hl : 0 < cs.length) : ∃ B o' c, u = .slice (some ⟨B, o', none⟩) n c ∧ n ≤ c ∧
    ∃ us : List Value, us.length = cs.length ∧ (∀ j v, us[j]? = some v → o' + j < G.mark B ∧ w.cell? ⟨B, o' + j, none⟩ = some v) ∧ ∀ j (h : j < cs.length) (h' : j < us.length), (cs[j]).cell = true ∧ PV G.mark w cs[j] us[j] := by
  cases h with
  | nil => simp at hl
  | pz _ => simp at hl
  | ps us hn hc hk hv =>
    refine ⟨_, _, _, rfl, hn, (List.range cs.length).map us, by simp, fun j v hj => ?_, fun j hj hj' => ⟨hk j hj, by simpa using hv j hj⟩⟩
    obtain ⟨hlt, he⟩ := List.getElem?_eq_some_iff.1 hj
    have hj2 : j < cs.length := by simpa using hlt
    have he' : us j = v := by simpa using he
    rw [← he']
    exact hc j hj2

theorem PV.mk {m : Nat → Nat} {cs : List D} {n c B o' : Nat} {us : List Value} (hl : us.length = cs.length) (hn : n ≤ c) (hc : ∀ j v, us[j]? = some v → o' + j < m B ∧ w.cell? ⟨B, o' + j, none⟩ = some v)
    (hv : ∀ j (h : j < cs.length) (h' : j < us.length), (cs[j]).cell = true ∧ PV m w cs[j] us[j]) : PV m w (.ps cs n) (.slice (some ⟨B, o', none⟩) n c) := by
  refine .ps (fun j => us.getD j undef) hn (fun j hj => ?_) (fun j hj => (hv j hj (by omega)).1) (fun j hj => ?_)
  · exact hc j _ (by simp [List.getD_eq_getElem?_getD, List.getElem?_eq_getElem (show j < us.length by omega)])
  · have := (hv j hj (by omega)).2
    simpa [List.getD_eq_getElem?_getD, List.getElem?_eq_getElem (show j < us.length by omega)] using this

/-- The two rows one behind the other. -/
theorem PV.both {m : Nat → Nat} {cs ds : List D} {us vs : List Value} (hl : us.length = cs.length) (hm : vs.length = ds.length)
    (h1 : ∀ j (h : j < cs.length) (h' : j < us.length), (cs[j]).cell = true ∧ PV m w cs[j] us[j]) (h2 : ∀ j (h : j < ds.length) (h' : j < vs.length), (ds[j]).cell = true ∧ PV m w ds[j] vs[j]) :
    ∀ j (h : j < (cs ++ ds).length) (h' : j < (us ++ vs).length), ((cs ++ ds)[j]).cell = true ∧ PV m w (cs ++ ds)[j] (us ++ vs)[j] := by
  intro j hj hj'
  rcases Nat.lt_or_ge j cs.length with h | h
  · rw [List.getElem_append_left h, List.getElem_append_left (by omega)]; exact h1 j h (by omega)
  · simp only [List.length_append] at hj hj'
    rw [List.getElem_append_right h, List.getElem_append_right (by omega)]
    have := h2 (j - cs.length) (by omega) (by omega)
    simpa [hl] using this

/-- A row more, of the call's own: the new one is the tip i. -/
theorem Rel.new_tip (h : Rel m0 w0 G E S F a w) {i : Nat} {F' : Nat → Prop} (hF : ∀ b, F' b → F b) (hi : F i ∧ (∀ b, F' b → b ≠ i) ∨ ∃ k sz, S.T i = some (k, sz)) {w1 : World} {us : Array Value} {T : TypeId} {fr : Nat × Nat} {v n c sz : Nat} (hw : w1 = w.alloc (.cells us T fr)) (hfr : unf fr us.size)
    (hsz : 0 < sz) (hn : v ≤ n) (hc : n ≤ c) (hroom : (c - v) * sz ≤ us.size) (hgrow : ∀ k sz', S.T i = some (k, sz') → k < n) :
    ∃ G', Rel m0 w0 G' E (S.tipTo i n sz) F' a w1 ∧ Fut G w G' w1 ∧ G'.mark w.heap.size = (n - v) * sz ∧ G'.tip i = some (w.heap.size, v, n, c) ∧ (∀ B, B ≠ w.heap.size → G'.mark B = G.mark B) := by
  subst hw
  let G' : Gh := ⟨G.box, upd G.tip i (w.heap.size, v, n, c), fun B => if B = w.heap.size then (n - v) * sz else G.mark B, G.obj⟩
  have hk : Rel m0 w0 G E S F a (w.alloc (.cells us T fr)) := h.alloc _
  have hm0 : G.mark w.heap.size = 0 := h.new _ (Nat.le_refl _)
  have oldtip : ∀ B v' k cap, G.tip i = some (B, v', k, cap) → k < n := by
    intro B v' k cap hg
    rcases hi with ⟨hi, _⟩ | ⟨k', sz', hi⟩
    · rw [(h.fresh i hi).2] at hg; cases hg
    · obtain ⟨B', v2, us', T', cap', fr', h1, _⟩ := h.tip i k' sz' hi
      rw [h1] at hg; cases hg
      exact hgrow _ _ hi
  have f : Fut G w G' (w.alloc (.cells us T fr)) := by
    refine Fut.mk' (calm_alloc w _) (fun _ _ h => h) (fun j B v' k cap hg => ?_) (fun B => ?_) (fun B o ho => ?_) (fun _ _ h => h)
    · by_cases e : j = i
      · subst e
        have := oldtip B v' k cap hg
        exact ⟨w.heap.size, v, n, c, upd_same _ _ _, by omega, fun e => by omega⟩
      · refine ⟨B, v', k, cap, (upd_ne _ _ e).trans hg, Nat.le_refl _, fun _ => ⟨rfl, rfl, rfl, ?_⟩⟩
        have := h.tlt j B v' k cap hg
        show (if B = w.heap.size then (n - v) * sz else G.mark B) = _
        rw [if_neg (by omega)]
    · show G.mark B ≤ if B = w.heap.size then (n - v) * sz else G.mark B
      split
      · rename_i e; subst e; omega
      · exact Nat.le_refl _
    · have hlt : B < w.heap.size := by
        rcases Nat.lt_or_ge B w.heap.size with hB | hB
        · exact hB
        · rw [h.new B hB] at ho; omega
      exact World.cell?_alloc_lt w _ ⟨B, o, none⟩ hlt
  have heapnew : (w.alloc (.cells us T fr)).heap[w.heap.size]? = some (.cells us T fr) := heap_alloc_self
  refine ⟨G', ⟨fun k s hs => (h.env k s hs).fut f, h.size, h.few, fun b cs hb ho => ?_, h.inj, fun j k sz' hj => ?_, fun j j' B v1 k c1 v2 k' c2 e1 e2 => ?_, fun j B v1 k c1 hj => ?_, fun j b B v1 k c1 hj hb e2 => ?_, fun b hb => ?_, fun B hB => ?_, fun B hB => ?_, hk.below, h.defers, fun g x hg => (h.glob g x hg).fut f, h.more.fut f (calm_alloc w _) (fun _ _ _ h1 h2 => ⟨h1, h2, rfl⟩) (fun B o hB _ => if_neg (Nat.ne_of_lt (lt_of_heap hB))) (fun b hb => h.more.ofresh b (hF b hb)) rfl (fun _ B hlt => by
      by_cases e : B = w.heap.size
      · subst e; rw [show fr = (0, 0) from hfr] at heapnew ⊢; exact .inl ⟨us, T, heapnew⟩
      · rw [show G'.mark B = G.mark B from if_neg e] at hlt; exact absurd hlt (Nat.lt_irrefl _))⟩, f, if_pos rfl, upd_same _ _ _, fun B hB => if_neg hB⟩
  · obtain ⟨B, us', T', h1, h2, h3, h4, h5, hu0, h6⟩ := hk.box b cs hb ho
    obtain ⟨B0, us0, T0, g1, g2, _⟩ := h.box b cs hb ho
    have hlt := lt_of_heap g2
    obtain rfl : B = B0 := Option.some.inj (h1.symm.trans g1)
    refine ⟨B, us', T', h1, h2, h3, ?_, h5, hu0, fun j hj hj' => ⟨(h6 j hj hj').1, ?_⟩⟩
    · show (if B = w.heap.size then (n - v) * sz else G.mark B) = 0
      rw [if_neg (by omega)]; exact h4
    · obtain ⟨B1, us1, T1, k1, k2, k3, k4, k5, ku0, k6⟩ := h.box b cs hb ho
      obtain rfl : B = B1 := Option.some.inj (h1.symm.trans k1)
      have e2 : (w.alloc (.cells us T fr)).heap[B]? = w.heap[B]? := heap_alloc_lt hlt
      rw [e2, k2] at h2
      simp only [Option.some.injEq, Obj.cells.injEq] at h2
      obtain ⟨rfl, _, _⟩ := h2
      exact (k6 j hj (by omega)).2.fut f
  · by_cases e : j = i
    · subst e
      have : k = n ∧ sz' = sz := by have := hj; simp only [St.tipTo, upd_same, Option.some.injEq, Prod.mk.injEq] at this; exact ⟨this.1.symm, this.2.symm⟩
      obtain ⟨rfl, rfl⟩ := this
      exact ⟨w.heap.size, v, us, T, c, fr, upd_same _ _ _, heapnew, hfr, h.below.size, if_pos rfl, hroom, hn, hsz, hc⟩
    · have hj' : S.T j = some (k, sz') := by simpa only [St.tipTo, upd_ne S.T _ e] using hj
      obtain ⟨B, v1, us', T', cap, fr', h1, h2, h0, h3, h4, r⟩ := h.tip j k sz' hj'
      have hlt := h.tlt j B v1 k cap h1
      refine ⟨B, v1, us', T', cap, fr', (upd_ne _ _ e).trans h1, (heap_alloc_lt hlt).trans h2, h0, h3, ?_, r⟩
      show (if B = w.heap.size then (n - v) * sz else G.mark B) = _
      rw [if_neg (by omega)]; exact h4
  · by_cases e : j = i
    · by_cases e' : j' = i
      · rw [e, e']
      · exfalso
        subst e
        have a1 : some (w.heap.size, v, n, c) = some (B, v1, k, c1) := (upd_same G.tip j _).symm.trans e1
        have a2 := h.tlt j' B v2 k' c2 ((upd_ne _ _ e').symm.trans e2)
        cases a1; omega
    · by_cases e' : j' = i
      · exfalso
        subst e'
        have a1 : some (w.heap.size, v, n, c) = some (B, v2, k', c2) := (upd_same G.tip j' _).symm.trans e2
        have a2 := h.tlt j B v1 k c1 ((upd_ne _ _ e).symm.trans e1)
        cases a1; omega
      · exact h.tinj j j' B v1 k c1 v2 k' c2 ((upd_ne _ _ e).symm.trans e1) ((upd_ne _ _ e').symm.trans e2)
  · by_cases e : j = i
    · subst e
      have a1 : some (w.heap.size, v, n, c) = some (B, v1, k, c1) := (upd_same G.tip j _).symm.trans hj
      cases a1; simp
    · have := h.tlt j B v1 k c1 ((upd_ne _ _ e).symm.trans hj)
      simp; omega
  · by_cases e : j = i
    · subst e
      have a1 : some (w.heap.size, v, n, c) = some (B, v1, k, c1) := (upd_same G.tip j _).symm.trans hj
      obtain ⟨cs, hcs⟩ := Option.ne_none_iff_exists'.1 hb
      obtain ⟨B0, us0, T0, g1, g2, _⟩ := h.box b cs hcs (h.boxOf hcs e2)
      obtain rfl : B0 = B := Option.some.inj (g1.symm.trans e2)
      have := lt_of_heap g2
      cases a1; omega
    · exact h.tbox j b B v1 k c1 ((upd_ne _ _ e).symm.trans hj) hb e2
  · have hb' := h.fresh b (hF b hb)
    refine ⟨hb'.1, ?_⟩
    have hne : b ≠ i := by
      rcases hi with ⟨_, h2⟩ | ⟨k, sz', hk'⟩
      · exact h2 b hb
      · rintro rfl
        obtain ⟨B, _, _, _, cap, _, h1, _⟩ := h.tip b k sz' hk'
        rw [hb'.2] at h1; cases h1
    exact (upd_ne _ _ hne).trans hb'.2
  · show (if B = w.heap.size then (n - v) * sz else G.mark B) = 0
    simp at hB
    rw [if_neg (by omega)]; exact h.new B (by omega)
  · show (if B = w.heap.size then (n - v) * sz else G.mark B) = m0 B
    have := h.below.size
    rw [if_neg (by omega)]; exact h.low B hB

/-- The tip's row is written on behind what it had. -/
theorem Rel.grow_tip (h : Rel m0 w0 G E S F a w) {i v k n B cap sz : Nat} {us news : List Value} {T : TypeId} {fr : Nat × Nat} (hi : S.T i = some (k, sz)) (hg : G.tip i = some (B, v, k, cap)) (hB : w.heap[B]? = some (.cells us.toArray T fr)) (hfr : unf fr us.length) (hBw : w0.heap.size ≤ B)
    (hm : G.mark B = (k - v) * sz) (hroom : (cap - v) * sz ≤ us.length) (hv : v ≤ k) (hsz : 0 < sz) (hkn : k < n) (hnc : n ≤ cap) (hnews : (k - v) * sz + news.length = (n - v) * sz) {w1 : World}
    (hw : w1 = w.setRow B (us.take ((k - v) * sz) ++ news ++ us.drop ((k - v) * sz + news.length)).toArray) :
    ∃ G', Rel m0 w0 G' E (S.tipTo i n sz) F a w1 ∧ Fut G w G' w1 ∧ G'.mark B = (n - v) * sz ∧ G'.tip i = some (B, v, n, cap) ∧ (∀ X, X ≠ B → G'.mark X = G.mark X) ∧ (∀ j u, news[j]? = some u → w1.cell? ⟨B, (k - v) * sz + j, none⟩ = some u) := by
  subst hw
  have hfit : (n - v) * sz ≤ us.length := Nat.le_trans (Nat.mul_le_mul_right _ (by omega)) hroom
  have hkle : (k - v) * sz < (n - v) * sz := Nat.mul_lt_mul_of_pos_right (by omega) hsz
  generalize hK : (k - v) * sz = K at *
  generalize hN : (n - v) * sz = N at *
  let G' : Gh := ⟨G.box, upd G.tip i (B, v, n, cap), fun X => if X = B then N else G.mark X, G.obj⟩
  generalize hW : w.setRow B (us.take K ++ news ++ us.drop (K + news.length)).toArray = W
  have hother : ∀ X, X ≠ B → W.heap[X]? = w.heap[X]? := by
    intro X hX; subst hW
    simp only [World.setRow, Array.getElem?_modify]
    rw [if_neg (fun e => hX e.symm)]
  have hsize : W.heap.size = w.heap.size := by subst hW; simp [World.setRow]
  have hnew : W.heap[B]? = some (.cells (us.take K ++ news ++ us.drop (K + news.length)).toArray T fr) := by subst hW; exact setRow_heap w B _ _ T fr hB
  have hget : ∀ j, W.cell? ⟨B, j, none⟩ = if j < K then us[j]? else if j < K + news.length then news[j - K]? else us[j]? := by
    intro j
    rw [cell_of_heap hnew]
    have := three_get (l := us) (m := news) (off := K) (n := news.length) rfl (by omega) j
    simpa using this
  have hold : ∀ j, w.cell? ⟨B, j, none⟩ = us[j]? := fun j => by rw [cell_of_heap hB]; simp
  have hBlt := lt_of_heap hB
  have hcalm : Calm w W := calm_row hB hnew (by simp; omega) hother
  have f : Fut G w G' W := by
    refine Fut.mk' hcalm (fun _ _ h => h) (fun j X v' k' cap' hj => ?_) (fun X => ?_) (fun X o ho => ?_) (fun _ _ h => h)
    · by_cases e : j = i
      · subst e
        rw [hg] at hj; cases hj
        exact ⟨B, v, n, cap, upd_same _ _ _, by omega, fun e => by omega⟩
      · refine ⟨X, v', k', cap', (upd_ne _ _ e).trans hj, Nat.le_refl _, fun _ => ⟨rfl, rfl, rfl, ?_⟩⟩
        show (if X = B then N else G.mark X) = G.mark X
        by_cases eX : X = B
        · subst eX; exact absurd (h.tinj j i X v' k' cap' v k cap hj hg) e
        · rw [if_neg eX]
    · show G.mark X ≤ if X = B then N else G.mark X
      split
      · rename_i e; subst e; rw [hm]; omega
      · exact Nat.le_refl _
    · by_cases e : X = B
      · subst e
        rw [hm] at ho
        rw [hget o, if_pos ho, hold o]
      · simp only [World.cell?, hother X e]
  refine ⟨G', ⟨fun j s hs => (h.env j s hs).fut f, h.size, h.few, fun b cs hb ho => ?_, h.inj, fun j k' sz' hj => ?_, fun j j' X v1 k1 c1 v2 k2 c2 e1 e2 => ?_, fun j X v1 k1 c1 hj => ?_, fun j b X v1 k1 c1 hj hb e2 => ?_, fun b hb => ?_, fun X hX => ?_, fun X hX => ?_, ?_, h.defers, fun g x hg => (h.glob g x hg).fut f, h.more.fut f hcalm (fun _ _ _ h1 h2 => ⟨h1, h2, rfl⟩) (fun X o hX ho => if_neg (fun e => by
      subst e
      rw [hB] at hX; cases hX
      exact ho _ _ _ rfl)) (fun b hb => h.more.ofresh b hb) rfl (fun _ X hlt => by
      by_cases e : X = B
      · subst e; rw [show fr = (0, 0) from hfr] at hnew; exact .inl ⟨_, T, hnew⟩
      · rw [show G'.mark X = G.mark X from if_neg e] at hlt; exact absurd hlt (Nat.lt_irrefl _))⟩, f, if_pos rfl, upd_same _ _ _, fun X hX => if_neg hX, fun j v hj => ?_⟩
  · obtain ⟨X, us', T', h1, h2, h3, h4, h5, hu0, h6⟩ := h.box b cs hb ho
    have hne : X ≠ B := fun e => by subst e; exact h.tbox i b X v k cap hg (by rw [show S.B b = some cs from hb]; simp) h1
    exact ⟨X, us', T', h1, (hother X hne).trans h2, h3, (if_neg hne).trans h4, h5, hu0, fun j hj hj' => ⟨(h6 j hj hj').1, (h6 j hj hj').2.fut f⟩⟩
  · by_cases e : j = i
    · subst e
      have : k' = n ∧ sz' = sz := by have := hj; simp only [St.tipTo, upd_same, Option.some.injEq, Prod.mk.injEq] at this; exact ⟨this.1.symm, this.2.symm⟩
      obtain ⟨rfl, rfl⟩ := this
      exact ⟨B, v, _, T, cap, fr, upd_same _ _ _, hnew, (by have e : us.length = (us.take K ++ news ++ us.drop (K + news.length)).toArray.size := (by simp; omega); rw [← e]; exact hfr), hBw, (if_pos rfl).trans hN.symm, by simp; omega, by omega, hsz, hnc⟩
    · have hj' : S.T j = some (k', sz') := by simpa only [St.tipTo, upd_ne S.T _ e] using hj
      obtain ⟨X, v', us', T', cap', fr', h1, h2, h0, h3, h4, r⟩ := h.tip j k' sz' hj'
      have hne : X ≠ B := fun eX => by subst eX; exact e (h.tinj j i X v' k' cap' v k cap h1 hg)
      exact ⟨X, v', us', T', cap', fr', (upd_ne _ _ e).trans h1, (hother X hne).trans h2, h0, h3, (if_neg hne).trans h4, r⟩
  · have back : ∀ j X v1 k1 c1, G'.tip j = some (X, v1, k1, c1) → ∃ v2 k2 c2, G.tip j = some (X, v2, k2, c2) := by
      intro j X v1 k1 c1 hj
      by_cases e : j = i
      · subst e
        have a1 : some (B, v, n, cap) = some (X, v1, k1, c1) := (upd_same G.tip j _).symm.trans hj
        cases a1; exact ⟨v, k, cap, hg⟩
      · exact ⟨v1, k1, c1, (upd_ne _ _ e).symm.trans hj⟩
    obtain ⟨_, _, _, b1⟩ := back j X v1 k1 c1 e1
    obtain ⟨_, _, _, b2⟩ := back j' X v2 k2 c2 e2
    exact h.tinj j j' X _ _ _ _ _ _ b1 b2
  · by_cases e : j = i
    · subst e
      have a1 : some (B, v, n, cap) = some (X, v1, k1, c1) := (upd_same G.tip j _).symm.trans hj
      cases a1; omega
    · have := h.tlt j X v1 k1 c1 ((upd_ne _ _ e).symm.trans hj); omega
  · by_cases e : j = i
    · subst e
      have a1 : some (B, v, n, cap) = some (X, v1, k1, c1) := (upd_same G.tip j _).symm.trans hj
      cases a1
      exact h.tbox j b B v k cap hg hb e2
    · exact h.tbox j b X v1 k1 c1 ((upd_ne _ _ e).symm.trans hj) hb e2
  · obtain ⟨b1, b2⟩ := h.fresh b hb
    refine ⟨b1, ?_⟩
    have hne : b ≠ i := by rintro rfl; rw [hg] at b2; cases b2
    exact (upd_ne _ _ hne).trans b2
  · show (if X = B then N else G.mark X) = 0
    rw [if_neg (by omega)]; exact h.new X (by omega)
  · show (if X = B then N else G.mark X) = m0 X
    rw [if_neg (by omega)]; exact h.low X hX
  · refine h.below.trans ⟨?_, ?_, ?_, by omega, fun X hX => hother X (by omega)⟩ <;> (subst hW; rfl)
  · obtain ⟨hlt, _⟩ := List.getElem?_eq_some_iff.1 hj
    rw [hget, if_neg (by omega), if_pos (by omega), Nat.add_sub_cancel_left]
    exact hj

/-- A slice type to which may be appended: the elements' type, their cells, their bytes. -/
def appOf (P : Program) (T : TypeId) : Option (TypeId × Nat × Nat) :=
  match P.underlying T with
  | some (.slice e) => match P.info? e with
    | some i => match i.zero with
      | some z => if z.cells.size = i.size ∧ 0 < i.size then some (e, i.size, i.bytes) else none
      | none => none
    | none => none
  | _ => none

theorem appOf_ok {T e : TypeId} {sz by_ : Nat} (h : appOf P T = some (e, sz, by_)) : P.underlying T = some (.slice e) ∧ ∃ i z, P.info? e = some i ∧ i.zero = some z ∧ z.cells.size = sz ∧ i.size = sz ∧ i.bytes = by_ ∧ 0 < sz := by
  unfold appOf at h
  split at h
  · rename_i e' hu
    split at h
    · rename_i i hi
      split at h
      · rename_i z hz
        split at h
        · rename_i hc
          simp only [Option.some.injEq, Prod.mk.injEq] at h
          obtain ⟨rfl, rfl, rfl⟩ := h
          exact ⟨hu, i, z, hi, hz, hc.1, rfl, rfl, hc.2⟩
        · cases h
      · cases h
    · cases h
  · cases h

theorem run_append_none {T e ty : TypeId} {sz by_ : Nat} (h : appOf P T = some (e, sz, by_)) {A A' : Option Addr} {n c c' : Nat} (hn : n ≤ c) (hA : A' = none ∨ ∃ b, A' = some b) :
    (Builtin.append_ #[T, T] ty #[.slice A n c, .slice A' 0 c']).run P w = .ok (.slice A n c) w := by
  obtain ⟨hu, i, z, hi, hz, h1, h2, h3, h4⟩ := appOf_ok h
  cases A with
  | none => cases A' <;> simp [Builtin.append_, run_under hu, sizeOf, typeInfo, hi, Builtin.lenOf, hn, Builtin.firstCells, loadCells, loadCellsFrom]
  | some b => cases A' <;> simp [Builtin.append_, run_under hu, sizeOf, typeInfo, hi, Builtin.lenOf, hn, Builtin.firstCells, loadCells, loadCellsFrom, storeCells]

theorem run_append_room2 {t ty e : TypeId} {i : TypeInfo} (ht : P.underlying t = some (.slice e)) (hi : P.info? e = some i)
    (g o sLen sCap : Nat) (cur : Array Value) (T : TypeId) {fr : Nat × Nat} (hg : w.heap[g]? = some (.cells cur T fr)) (hfr : unf fr cur.size)
    (a : Addr) (m c : Nat) (news : List Value) (hl : news.length = m * i.size) (hnews : ∀ j u, news[j]? = some u → w.cell? (a.add j) = some u) (h1 : ∀ u ∈ news, u.oneCell' = true)
    (hroom : sLen + m ≤ sCap) (hfit : o + sLen * i.size + news.length ≤ cur.size) :
    (Builtin.append_ #[t, t] ty #[.slice (some ⟨g, o, none⟩) sLen sCap, .slice (some a) m c]).run P w =
      .ok (.slice (some ⟨g, o, none⟩) (sLen + m) sCap) (w.setRow g (cur.toList.take (o + sLen * i.size) ++ news ++ cur.toList.drop (o + sLen * i.size + news.length)).toArray) := by
  have hf := run_firstCells_some (P := P) w i.size m a m c news hl hnews
  have hst := run_storeCells_fr (P := P) g (o + sLen * i.size) T fr news 0 cur w hg hfr (by simpa using hfit) h1
  simp only [Nat.add_zero] at hst
  simp [Builtin.append_, run_under ht, sizeOf, typeInfo, hi, Builtin.lenOf, hroom, hf, add_off, hst]

theorem run_builtin_append {x y : Operand} {T : TypeId} {u v r : Value} {w' : World} (ho : o.op = .call { callee := .builtin .append, args := #[x, y], argTypes := #[T, T] }) (hx : a.eval x = u) (hy : a.eval y = v)
    (h : (Builtin.append_ #[T, T] o.type #[u, v]).run P w = .ok r w') : (execOp a.eval o).run P w = .ok (.value r) w' := by
  simp only [execOp, ho]
  simp [resolve, invoke, builtin, hx, hy, h]

theorem grownCap_ge' (w : World) (need old : Nat) (e : TypeId) : need ≤ grownCap w need old e := grownCap_ge w need old e

/-- Nothing is appended. -/
theorem does_append_none {x y : Operand} {T e : TypeId} {sz by_ : Nat} {s t : SV} {cs ds : List D} {n : Nat} (ho : o.op = .call { callee := .builtin .append, args := #[x, y], argTypes := #[T, T] }) (h : Rel m0 w0 G E S F a w)
    (hx : evalO E x = some s) (hy : evalO E y = some t) (hs : rowS s = some (cs, n)) (ht : rowS t = some (ds, 0)) (hT : appOf P T = some (e, sz, by_)) : Does P m0 w0 G E S F a w o s S F := by
  have hX := evalO_ok h hx
  obtain ⟨A, c, e1, hn⟩ := (rowS_ok hs hX).slice_inv
  obtain ⟨A', c', e2, _⟩ := (rowS_ok ht (evalO_ok h hy)).slice_inv
  refine .quiet h (u := .slice A n c) (run_builtin_append ho e1 e2 (run_append_none hT hn (by cases A' <;> simp))) (by rw [← e1]; exact hX)

/-- The cells of a slice that is read. -/
theorem PV.cells' {m : Nat → Nat} {cs : List D} {n n' B o' c : Nat} (h : PV m w (.ps cs n) (.slice (some ⟨B, o', none⟩) n' c)) :
    ∃ us : List Value, us.length = cs.length ∧ (∀ j v, us[j]? = some v → o' + j < m B ∧ w.cell? ⟨B, o' + j, none⟩ = some v) ∧ ∀ j (h : j < cs.length) (h' : j < us.length), (cs[j]).cell = true ∧ PV m w cs[j] us[j] := by
  cases h with
  | pz h => exact absurd rfl h
  | ps us hn hc hk hv =>
    refine ⟨(List.range cs.length).map us, by simp, fun j v hj => ?_, fun j hj hj' => ⟨hk j hj, by simpa using hv j hj⟩⟩
    obtain ⟨hlt, he⟩ := List.getElem?_eq_some_iff.1 hj
    have hj2 : j < cs.length := by simpa using hlt
    have he' : us j = v := by simpa using he
    rw [← he']
    exact hc j hj2

/-- The new row's cells: what was there, and what is appended. -/
theorem new_cells {G' : Gh} {w1 : World} (f : Fut G w G' w1) {B n c : Nat} {cs ds : List D} {us vs : List Value} {zs : Array Value} {T : TypeId} (hl : us.length = cs.length) (hm : vs.length = ds.length) (hn : n ≤ c)
    (h1 : ∀ j (h : j < cs.length) (h' : j < us.length), (cs[j]).cell = true ∧ PV G.mark w cs[j] us[j]) (h2 : ∀ j (h : j < ds.length) (h' : j < vs.length), (ds[j]).cell = true ∧ PV G.mark w ds[j] vs[j])
    (hB : w1.heap[B]? = some (.cells (us.toArray ++ vs.toArray ++ zs) T (0, 0))) (hmark : us.length + vs.length ≤ G'.mark B) : PV G'.mark w1 (.ps (cs ++ ds) n) (.slice (some ⟨B, 0, none⟩) n c) := by
  refine PV.mk (us := us ++ vs) (by simp [hl, hm]) hn (fun j v hj => ?_) (PV.both hl hm (fun j hj hj' => ⟨(h1 j hj hj').1, (h1 j hj hj').2.fut f⟩) (fun j hj hj' => ⟨(h2 j hj hj').1, (h2 j hj hj').2.fut f⟩))
  obtain ⟨hlt, _⟩ := List.getElem?_eq_some_iff.1 hj
  simp only [List.length_append] at hlt
  refine ⟨by omega, ?_⟩
  rw [Nat.zero_add, cell_of_heap hB, Array.getElem?_append_left (by simp; omega)]
  simpa using hj

/-- A row without spare room: a new one is made of it and what is appended, whatever becomes of it. -/
theorem run_append_fl {x y : Operand} {T e : TypeId} {sz by_ : Nat} {t : SV} {cs ds : List D} {n m : Nat} (ho : o.op = .call { callee := .builtin .append, args := #[x, y], argTypes := #[T, T] }) (h : Rel m0 w0 G E S F a w)
    (hx : evalO E x = some (.fl cs n)) (hy : evalO E y = some t) (ht : rowS t = some (ds, m)) (hT : appOf P T = some (e, sz, by_)) (hm : 0 < m) (hcs : cs.length = n * sz) (hds : ds.length = m * sz)
    (hb : (n + m) * by_ ≤ 140737488355328) (hb2 : n + m ≤ 140737488355328) : ∃ (us vs : List Value) (zs : Array Value) (c : Nat), us.length = cs.length ∧ vs.length = ds.length ∧
      (∀ j (h : j < cs.length) (h' : j < us.length), (cs[j]).cell = true ∧ PV G.mark w cs[j] us[j]) ∧ (∀ j (h : j < ds.length) (h' : j < vs.length), (ds[j]).cell = true ∧ PV G.mark w ds[j] vs[j]) ∧
      n + m ≤ c ∧ c * sz ≤ us.length + vs.length + zs.size ∧
      (execOp a.eval o).run P w = .ok (.value (.slice (some ⟨w.heap.size, 0, none⟩) (n + m) c)) (w.drew.alloc (.cells (us.toArray ++ vs.toArray ++ zs) e)) := by
  obtain ⟨hu, i, z, hi, hz, h1, h2, h3, h4⟩ := appOf_ok hT
  have hX := evalO_ok h hx
  have hdl : 0 < ds.length := by rw [hds]; exact Nat.mul_pos hm h4
  obtain ⟨By, oy, cy, e2, _, vs, hvl, hvc, hvv⟩ := (rowS_ok ht (evalO_ok h hy)).cells hdl
  have hvc' : ∀ j v, vs[j]? = some v → w.cell? ((⟨By, oy, none⟩ : Addr).add j) = some v := fun j v hj => by rw [add_off]; exact (hvc j v hj).2
  have hvl2 : vs.length = m * i.size := by rw [hvl, hds, h2]
  generalize hA : a.eval x = A at hX
  cases hX with
  | fl hp hcap =>
    cases hp with
    | nil =>
      have hr := run_append_nil (P := P) w T o.type e i z hu hi hz ⟨By, oy, none⟩ m cy vs hvl2 hvc' hm (by omega) (by rw [h3]; simp only [Nat.zero_add] at hb; omega)
      have hr2 := run_builtin_append ho hA e2 hr
      refine ⟨[], vs, Builtin.zeroCells z.cells (grownCap w m 0 e - m), grownCap w m 0 e, rfl, hvl, fun j hj => by simp at hj, hvv, by have := grownCap_ge w m 0 e; omega, ?_, by simpa using hr2⟩
      have := grownCap_ge w m 0 e
      rw [size_zeroCells, h1, hvl, hds, List.length_nil, Nat.zero_add, ← Nat.add_mul]
      exact Nat.mul_le_mul_right _ (by omega)
    | pz hsp =>
      rename_i a0
      have hr := run_append_grow (P := P) w T o.type e i z hu hi hz a0 0 0 [] (by simp) (fun j v hj => by simp at hj) ⟨By, oy, none⟩ m cy vs hvl2 hvc' (by omega) (by omega) (growslice_fits (by omega) (by rw [h3]; simpa using hb))
      have hr2 := run_builtin_append ho hA e2 hr
      refine ⟨[], vs, _, _, by simp, hvl, fun j hj => by simp at hj, hvv, grownCap_ge w (0 + m) 0 e, ?_, hr2⟩
      have := grownCap_ge w (0 + m) 0 e
      simp only [Nat.zero_add] at this ⊢
      rw [size_zeroCells, h1, hvl, hds, List.length_nil, Nat.zero_add, ← Nat.add_mul]
      exact Nat.mul_le_mul_right _ (by omega)
    | ps us hn hc hk hv =>
      rename_i B o' c
      have hcn : c = n := hcap _ _ _ rfl
      subst hcn
      have hr := run_append_grow (P := P) w T o.type e i z hu hi hz ⟨B, o', none⟩ c c ((List.range cs.length).map us) (by simp [hcs, h2]) (fun j v hj => by
        obtain ⟨hlt, he⟩ := List.getElem?_eq_some_iff.1 hj
        have hj2 : j < cs.length := by simpa using hlt
        rw [add_off, (hc j hj2).2]
        simpa using he) ⟨By, oy, none⟩ m cy vs hvl2 hvc' (by omega) (by omega) (growslice_fits (by omega) (by rw [h3]; exact hb))
      have hr2 := run_builtin_append ho hA e2 hr
      refine ⟨_, vs, _, _, by simp, hvl, fun j hj hj' => ⟨hk j hj, by simpa using hv j hj⟩, hvv, grownCap_ge w (c + m) c e, ?_, hr2⟩
      have := grownCap_ge w (c + m) c e
      rw [size_zeroCells, h1, hvl, hds, List.length_map, List.length_range, hcs, ← Nat.add_mul, ← Nat.add_mul]
      exact Nat.mul_le_mul_right _ (by omega)

/-- A row without spare room: the new one is a tip. -/
theorem does_append_new {x y : Operand} {T e : TypeId} {sz by_ : Nat} {t : SV} {cs ds : List D} {n m id : Nat} (ho : o.op = .call { callee := .builtin .append, args := #[x, y], argTypes := #[T, T] }) (h : Rel m0 w0 G E S F a w) (hid : F id)
    (hx : evalO E x = some (.fl cs n)) (hy : evalO E y = some t) (ht : rowS t = some (ds, m)) (hT : appOf P T = some (e, sz, by_)) (hm : 0 < m) (hcs : cs.length = n * sz) (hds : ds.length = m * sz)
    (hb : (n + m) * by_ ≤ 140737488355328) (hb2 : n + m ≤ 140737488355328) : Does P m0 w0 G E S F a w o (.tp id 0 (cs ++ ds) (n + m)) (S.tipTo id (n + m) sz) (fun b => F b ∧ b ≠ id) := by
  obtain ⟨us, vs, zs, c, hul, hvl, huv, hvv, hc, hroom, hrun⟩ := run_append_fl ho h hx hy ht hT hm hcs hds hb hb2
  have h4 : 0 < sz := (appOf_ok hT).2.choose_spec.choose_spec.2.2.2.2.2
  have hfi := h.fresh id hid
  obtain ⟨G', g1, f, g2, g3, g4⟩ := h.draw.new_tip (i := id) (F' := fun b => F b ∧ b ≠ id) (fun b hb => hb.1) (.inl ⟨hid, fun b hb => hb.2⟩) (us := us.toArray ++ vs.toArray ++ zs) (T := e) (v := 0) (n := n + m) (c := c) (sz := sz) (fr := (0, 0)) rfl (rfl) h4 (by omega) hc (by simpa [Nat.add_assoc] using hroom)
    (fun k sz' hk => by obtain ⟨B, _, _, _, cap, _, k1, _⟩ := h.tip id k sz' hk; rw [hfi.2] at k1; cases k1)
  have f := (fut_draw G w).trans f
  have hlen : us.length + vs.length = (n + m) * sz := by rw [hul, hcs, hvl, hds, Nat.add_mul]
  have g2 : G'.mark w.heap.size = (n + m) * sz := g2
  refine ⟨_, _, _, G', hrun, .inl rfl, .tp (new_cells f hul hvl hc huv hvv (heap_alloc_self (w := w.drew)) (by rw [hlen]; exact Nat.le_of_eq g2.symm)) g3 (by omega) (fun _ => ⟨rfl, Nat.le_refl _, rfl, sz, fun _ => by simp, ?_, h4⟩), g1, f⟩
  show G'.mark w.heap.size = _
  rw [g2]; rfl

/-- A row without spare room: the new one is a variable. -/
theorem does_append_var {x y : Operand} {T e : TypeId} {sz by_ : Nat} {t : SV} {cs ds : List D} {n m id : Nat} (ho : o.op = .call { callee := .builtin .append, args := #[x, y], argTypes := #[T, T] }) (h : Rel m0 w0 G E S F a w) (hid : F id)
    (hx : evalO E x = some (.fl cs n)) (hy : evalO E y = some t) (ht : rowS t = some (ds, m)) (hT : appOf P T = some (e, sz, by_)) (hm : 0 < m) (hcs : cs.length = n * sz) (hds : ds.length = m * sz)
    (hb : (n + m) * by_ ≤ 140737488355328) (hb2 : n + m ≤ 140737488355328) : Does P m0 w0 G E S F a w o (.os id 0 (n + m)) (S.new id ((cs ++ ds).map .d)) (fun b => F b ∧ b ≠ id) := by
  obtain ⟨us, vs, zs, c, hul, hvl, huv, hvv, hc, hroom, hrun⟩ := run_append_fl ho h hx hy ht hT hm hcs hds hb hb2
  obtain ⟨G', g1, f, g2⟩ := h.draw.new_box (id := id) hid ((cs ++ ds).map .d) (us.toArray ++ vs.toArray ++ zs) e (by simp [hul, hvl]) (fun j hj hj' => by
    have hj2 : j < (cs ++ ds).length := by simpa using hj
    have hj3 : j < (us ++ vs).length := by simp only [List.length_append] at hj2 ⊢; omega
    have := PV.both hul hvl (fun j hj hj' => ⟨(huv j hj hj').1, (huv j hj hj').2.fut (fut_draw G w)⟩) (fun j hj hj' => ⟨(hvv j hj hj').1, (hvv j hj hj').2.fut (fut_draw G w)⟩) j hj2 hj3
    have e1 : ((cs ++ ds).map SV.d)[j] = .d (cs ++ ds)[j] := List.getElem_map ..
    have e2 : (us.toArray ++ vs.toArray ++ zs)[j] = (us ++ vs)[j] := by
      rw [Array.getElem_append_left (by simpa using hj3)]
      simp
    rw [e1, e2]
    exact ⟨this.1, .d this.2⟩)
  exact ⟨_, _, _, G', hrun, .inl rfl, .os g2 hc, g1, (fut_draw G w).trans f⟩

theorem VR.tp_inv {i q : Nat} {cs : List D} {n : Nat} {u : Value} (h : VR G w (.tp i q cs n) u) : ∃ B o' c B' v k cap, u = .slice (some ⟨B, o', none⟩) n c ∧ PV G.mark w (.ps cs n) (.slice (some ⟨B, o', none⟩) n c) ∧ G.tip i = some (B', v, k, cap) ∧
    (q + n = k → B' = B ∧ v ≤ q ∧ c + q = cap ∧ ∃ sz, (0 < c → o' = (q - v) * sz) ∧ G.mark B = (k - v) * sz ∧ 0 < sz) := by
  cases h with
  | tp h ht hn he => exact ⟨_, _, _, _, _, _, _, rfl, h, ht, he⟩

/-- The tip of a row of the call's own. -/
theorem does_append_tip {x y : Operand} {T e : TypeId} {sz by_ : Nat} {t : SV} {cs ds : List D} {n m i q : Nat} (ho : o.op = .call { callee := .builtin .append, args := #[x, y], argTypes := #[T, T] }) (h : Rel m0 w0 G E S F a w)
    (hx : evalO E x = some (.tp i q cs n)) (hi : S.T i = some (q + n, sz)) (hy : evalO E y = some t) (ht : rowS t = some (ds, m)) (hT : appOf P T = some (e, sz, by_)) (hcs : cs.length = n * sz) (hds : ds.length = m * sz)
    (hb : (n + m) * by_ ≤ 140737488355328) (hb2 : n + m ≤ 140737488355328) : Does P m0 w0 G E S F a w o (.tp i q (cs ++ ds) (n + m)) (S.tipTo i (q + (n + m)) sz) F := by
  rcases Nat.eq_zero_or_pos m with hm0 | hm
  · subst hm0
    have hd0 : ds = [] := by simpa using hds
    subst hd0
    have := does_append_none ho h hx hy rfl ht hT
    have e1 : S.tipTo i (q + (n + 0)) sz = S := by
      unfold St.tipTo
      have : upd S.T i (q + (n + 0), sz) = S.T := by
        funext j
        by_cases e : j = i
        · subst e; rw [upd_same, Nat.add_zero, hi]
        · rw [upd_ne _ _ e]
      rw [this]
    rw [e1, List.append_nil]
    exact this
  obtain ⟨hu, inf, z, hinf, hz, h1, h2, h3, h4⟩ := appOf_ok hT
  have hX := evalO_ok h hx
  have hdl : 0 < ds.length := by rw [hds]; exact Nat.mul_pos hm h4
  obtain ⟨By, oy, cy, e2, _, vs, hvl, hvc, hvv⟩ := (rowS_ok ht (evalO_ok h hy)).cells hdl
  have hvc' : ∀ j v, vs[j]? = some v → w.cell? ((⟨By, oy, none⟩ : Addr).add j) = some v := fun j v hj => by rw [add_off]; exact (hvc j v hj).2
  have hvl2 : vs.length = m * inf.size := by rw [hvl, hds, h2]
  have hv1 : ∀ u ∈ vs, u.oneCell' = true := fun u hu => by
    obtain ⟨j, hj, rfl⟩ := List.getElem_of_mem hu
    obtain ⟨g1, g2⟩ := hvv j (by omega) hj
    exact g2.one g1
  obtain ⟨B, v, ws, Tb, cap, fr, t1, t2, t0, t3, t4, t5, t6, t7, t8⟩ := h.tip i (q + n) sz hi
  obtain ⟨B1, o1, c1, B2, v2, k2, cap2, hA, hp, htip, he⟩ := hX.tp_inv
  rw [t1] at htip
  simp only [Option.some.injEq, Prod.mk.injEq] at htip
  obtain ⟨rfl, rfl, rfl, rfl⟩ := htip
  obtain ⟨e1, hvq, hcap, sz2, ho1, hmk, hsz2⟩ := he rfl
  subst e1
  obtain ⟨us, hul, huc, huv⟩ := hp.cells'
  have hou : 0 < c1 → o1 = (q - v) * sz := by
    intro hc1
    rcases Nat.eq_zero_or_pos (q + n - v) with e0 | e0
    · have : q - v = 0 := by omega
      rw [ho1 hc1, this]; simp
    · have : (q + n - v) * sz2 = (q + n - v) * sz := by rw [← hmk, t4]
      rw [ho1 hc1, Nat.eq_of_mul_eq_mul_left e0 this]
  have hsum : (q - v) * sz + n * sz = (q + n - v) * sz := by rw [← Nat.add_mul]; congr 1; omega
  have hsum2 : (q + n - v) * sz + m * sz = (q + (n + m) - v) * sz := by rw [← Nat.add_mul]; congr 1; omega
  have hcn : n ≤ c1 := by omega
  by_cases hroom : n + m ≤ c1
  · -- in place
    have hou := hou (by omega)
    have hfit : (q + n - v) * sz + vs.length ≤ ws.size := by
      rw [hvl, hds, hsum2]
      exact Nat.le_trans (Nat.mul_le_mul_right _ (by omega)) t5
    have hr := run_append_room2 (P := P) (ty := o.type) hu hinf B o1 n c1 ws Tb t2 t0 ⟨By, oy, none⟩ m cy vs hvl2 hvc' hv1 hroom (by rw [h2, hou, hsum]; exact hfit)
    have hr2 := run_builtin_append ho hA e2 hr
    rw [h2, hou, hsum] at hr2
    obtain ⟨G', g1, f, g2, g3, g4, g5⟩ := h.grow_tip (i := i) (v := v) (k := q + n) (n := q + (n + m)) (B := B) (cap := cap) (sz := sz) (us := ws.toList) (news := vs) (T := Tb) hi t1 (by simpa using t2) (by simpa using t0) t3 t4 (by simpa using t5) t6 h4 (by omega) (by omega) (by rw [hvl, hds, hsum2]) rfl
    refine ⟨_, _, _, G', hr2, .inl rfl, .tp (PV.mk (us := us ++ vs) (by simp [hul, hvl]) hroom (fun j u hj => ?_) (PV.both hul hvl (fun j hj hj' => ⟨(huv j hj hj').1, (huv j hj hj').2.fut f⟩) (fun j hj hj' => ⟨(hvv j hj hj').1, (hvv j hj hj').2.fut f⟩))) g3 (Nat.le_refl _) (fun _ => ⟨rfl, hvq, by omega, sz, fun _ => rfl, g2, h4⟩), g1, f⟩
    obtain ⟨hlt, _⟩ := List.getElem?_eq_some_iff.1 hj
    simp only [List.length_append, hul, hvl, hcs, hds] at hlt
    refine ⟨by rw [g2, ← hsum2, ← hsum]; omega, ?_⟩
    rcases Nat.lt_or_ge j us.length with hj1 | hj1
    · rw [List.getElem?_append_left hj1] at hj
      have := huc j u hj
      rw [hou] at this
      rw [f.cell B _ this.1]; exact this.2
    · rw [List.getElem?_append_right hj1] at hj
      have := g5 (j - us.length) u hj
      have e : (q + n - v) * sz + (j - us.length) = (q - v) * sz + j := by rw [← hsum, hul, hcs]; rw [hul, hcs] at hj1; omega
      rw [e] at this; exact this
  · -- a new row
    have hr := run_append_grow (P := P) w T o.type e inf z hu hinf hz ⟨B, o1, none⟩ n c1 us (by rw [hul, hcs, h2]) (fun j v hj => by rw [add_off]; exact (huc j v hj).2)
      ⟨By, oy, none⟩ m cy vs hvl2 hvc' (by omega) (by omega) (growslice_fits (by omega) (by rw [h3]; exact hb))
    have hr2 := run_builtin_append ho hA e2 hr
    have hge := grownCap_ge w (n + m) c1 e
    have hlen : us.length + vs.length = (n + m) * sz := by rw [hul, hcs, hvl, hds, Nat.add_mul]
    obtain ⟨G', g1, f, g2, g3, g4⟩ := h.draw.new_tip (i := i) (F' := F) (fun b hb => hb) (.inr ⟨_, _, hi⟩) (us := us.toArray ++ vs.toArray ++ Builtin.zeroCells z.cells (grownCap w (n + m) c1 e - (n + m))) (T := e) (v := q) (n := q + (n + m)) (c := q + grownCap w (n + m) c1 e) (sz := sz) (fr := (0, 0)) rfl (rfl) h4 (by omega) (by omega) (by
        simp only [Array.size_append, List.size_toArray, size_zeroCells, h1]
        rw [hlen, ← Nat.add_mul]
        exact Nat.mul_le_mul_right _ (by omega)) (fun k sz' hk => by rw [hi] at hk; cases hk; omega)
    have f := (fut_draw G w).trans f
    have g2 : G'.mark w.heap.size = (q + (n + m) - q) * sz := g2
    refine ⟨_, _, _, G', hr2, .inl rfl, .tp (new_cells f hul hvl hge huv hvv (heap_alloc_self (w := w.drew)) (by rw [hlen, g2, Nat.add_sub_cancel_left]; exact Nat.le_refl _)) g3 (Nat.le_refl _) (fun _ => ⟨rfl, Nat.le_refl _, by omega, sz, fun _ => by simp, g2, h4⟩), g1, f⟩

/-- Behind a call that left all that was there as it was. -/
theorem Rel.called {m0 : Nat → Nat} {w0 : World} {G : Gh} {F : Nat → Prop} {a : Act} {w w' : World} (h : Rel m0 w0 G E S F a w) {m' : Nat → Nat} (hm : ∀ B, B < w.heap.size → m' B = G.mark B) (hm2 : ∀ B, w'.heap.size ≤ B → m' B = 0) (hcl : S.gl cleanAt ≠ none → ∀ B, w.heap.size ≤ B → 0 < m' B → okB w' B (m' B))
    (hb : Below w.heap.size w w') : Rel m0 w0 { G with mark := m' } E S F a w' ∧ Fut G w { G with mark := m' } w' := by
  have hle : ∀ B, G.mark B ≤ m' B := fun B => by
    rcases Nat.lt_or_ge B w.heap.size with hB | hB
    · exact Nat.le_of_eq (hm B hB).symm
    · rw [h.new B hB]; exact Nat.zero_le _
  have f : Fut G w { G with mark := m' } w' := by
    refine Fut.mk' (.of_same fun B hB => hb.block B hB) (fun _ _ h => h) (fun i B v k cap ht => ⟨B, v, k, cap, ht, Nat.le_refl _, fun _ => ⟨rfl, rfl, rfl, hm B (h.tlt i B v k cap ht)⟩⟩) hle (fun B o ho => ?_) (fun _ _ h => h)
    rcases Nat.lt_or_ge B w.heap.size with hB | hB
    · exact hb.cell (p := ⟨B, o, none⟩) hB
    · rw [h.new B hB] at ho; omega
  refine ⟨⟨fun k s hk => (h.env k s hk).fut f, h.size, h.few, fun b cs hbx ho => ?_, h.inj, fun i k sz hi => ?_, h.tinj, fun i B v k c hi => Nat.lt_of_lt_of_le (h.tlt i B v k c hi) hb.size, h.tbox, h.fresh, hm2, fun B hB => ?_, ?_, h.defers, fun g x hg => (h.glob g x hg).fut f, h.more.fut f (.of_same fun B hB => hb.block B hB) (fun _ _ _ h1 h2 => ⟨h1, h2, rfl⟩) (fun B o hB _ => hm B (lt_of_heap hB)) h.more.ofresh rfl (fun hg B hlt => by
    rcases Nat.lt_or_ge B w.heap.size with hB | hB
    · have hlt : G.mark B < m' B := hlt
      rw [hm B hB] at hlt; exact absurd hlt (Nat.lt_irrefl _)
    · exact hcl hg B hB (Nat.lt_of_le_of_lt (Nat.zero_le _) hlt))⟩, f⟩
  · obtain ⟨B, us, T, h1, h2, h3, h4, h5, hu0, h6⟩ := h.box b cs hbx ho
    exact ⟨B, us, T, h1, (hb.block B (lt_of_heap h2)).trans h2, h3, (hm B (lt_of_heap h2)).trans h4, h5, hu0, fun j hj hj' => ⟨(h6 j hj hj').1, (h6 j hj hj').2.fut f⟩⟩
  · obtain ⟨B, v, us, T, cap, fr, h1, h2, h0, h3, h4, r⟩ := h.tip i k sz hi
    exact ⟨B, v, us, T, cap, fr, h1, (hb.block B (lt_of_heap h2)).trans h2, h0, h3, (hm B (lt_of_heap h2)).trans h4, r⟩
  · exact (hm B (Nat.lt_of_lt_of_le hB h.below.size)).trans (h.low B hB)
  · exact h.below.trans (hb.mono h.below.size)

end
end Go.Sh
