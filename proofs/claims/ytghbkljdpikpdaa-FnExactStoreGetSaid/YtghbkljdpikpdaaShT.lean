/- THE SHADOW, 18 (it stands behind ShJ): rows that are appended to and cut, closures, maps, walks over maps. Over any program. -/
import Derived.Test.YtghbkljdpikpdaaShJ
import Derived.MapKept
import Derived.WideKeyEntry
import Derived.Laws.IdiomRangeMap
import Derived.Laws.StructEq
import Derived.LaidEqlPtr
set_option linter.unusedVariables false
set_option linter.unusedSimpArgs false
namespace Go.Sh
open Go.RowKit (Below)
section
variable {P : Program} {m0 : Nat → Nat} {w0 : World} {G : Gh} {E : Env} {S : St} {F : Nat → Prop} {a : Act} {w : World} {o : Oper}

theorem below_setRow {w : World} {B n : Nat} {us : Array Value} (h : n ≤ B) : Below n w (w.setRow B us) :=
  ⟨rfl, rfl, rfl, by simp [World.setRow], fun i hi => by simp only [World.setRow, Array.getElem?_modify]; rw [if_neg (by omega)]⟩

/-- All cells of a variable's row are written anew. -/
theorem Rel.set_box (h : Rel m0 w0 G E S F a w) {b B : Nat} {cs cs' : List SV} (hb : S.B b = some cs) (h1 : G.box b = some B) {us us' : Array Value} {T : TypeId} {fr : Nat × Nat} (h2 : w.heap[B]? = some (.cells us T fr)) (hsz : us'.size = us.size) (hl : cs'.length ≤ us'.size)
    (hv : ∀ W G', Fut G w G' W → ∀ j (h : j < cs'.length) (h' : j < us'.size), (cs'[j]).cell = true ∧ VR G' W cs'[j] us'[j]) :
    Rel m0 w0 G E (S.set b cs') F a (w.setRow B us') ∧ Fut G w G (w.setRow B us') := by
  obtain ⟨B', us0, T0, k1, k2, h3, h4, h5, hu0, h6⟩ := h.box b cs hb (h.boxOf hb h1)
  obtain rfl : B = B' := Option.some.inj (h1.symm.trans k1)
  rw [h2] at k2; cases k2
  have hother : ∀ i, i ≠ B → (w.setRow B us').heap[i]? = w.heap[i]? := by
    intro i hi
    simp only [World.setRow, Array.getElem?_modify]
    rw [if_neg (fun e => hi e.symm)]
  have hsize : (w.setRow B us').heap.size = w.heap.size := by simp [World.setRow]
  have hnew : (w.setRow B us').heap[B]? = some (.cells us' T0.1 T0.2) := heap_setRow_same h2
  have hcalm : Calm w (w.setRow B us') := calm_row h2 hnew hsz hother
  have f : Fut G w G (w.setRow B us') := by
    refine Fut.mk' hcalm (fun _ _ h => h) (fun _ B v k cap h => ⟨B, v, k, cap, h, Nat.le_refl _, fun _ => ⟨rfl, rfl, rfl, rfl⟩⟩) (fun _ => Nat.le_refl _) (fun i j hj => ?_) (fun _ _ h => h)
    by_cases e : i = B
    · subst e; rw [h4] at hj; omega
    · simp only [World.cell?, hother i e]
  have keepB : ∀ b', (S.set b cs').B b' ≠ none → S.B b' ≠ none := fun b' hb' => by
    by_cases e : b' = b
    · subst e; rw [hb]; simp
    · simpa only [St.set, upd_ne S.B _ e] using hb'
  refine ⟨⟨fun k s hk => (h.env k s hk).fut f, h.size, h.few, fun b' cs2 hb' ho' => ?_, fun b1 b2 B' e1 e2 => h.inj b1 b2 B' (keepB b1 e1) (keepB b2 e2), fun i k sz hi => ?_, h.tinj, fun i B v k c hi => by have := h.tlt i B v k c hi; omega, fun i b' B v k c hi hb' => h.tbox i b' B v k c hi (keepB b' hb'), h.fresh, fun i hi => h.new i (by omega), h.low, h.below.trans (below_setRow (by omega)), h.defers, fun g x hg => (h.glob g x hg).fut f, h.more.keep f hcalm (fun b' cs2 B' hb' ho' => by
      have e : b' ≠ b := fun e => by
        subst e
        rw [h.boxOf hb h1] at ho'; cases ho'
      simpa only [St.set, upd_ne S.B _ e] using hb') rfl (fun _ _ _ => rfl) rfl (fun _ h => h) rfl⟩, f⟩
  · by_cases e : b' = b
    · subst e
      have : cs2 = cs' := by have := hb'; simp only [St.set, upd_same, Option.some.injEq] at this; exact this.symm
      subst this
      exact ⟨B, us', T0, h1, hnew, hl, h4, h5, hu0, fun j hj hj' => hv _ _ f j hj hj'⟩
    · have hb2 : S.B b' = some cs2 := by simpa only [St.set, upd_ne S.B _ e] using hb'
      obtain ⟨B', us2, T'', g1, g2, g3, g4, g5, gu0, g6⟩ := h.box b' cs2 hb2 ho'
      have hne : B' ≠ B := fun eq => e (h.inj b' b B (by rw [hb2]; simp) (by rw [hb]; simp) (by rw [g1, eq]) h1)
      exact ⟨B', us2, T'', g1, (hother B' hne).trans g2, g3, g4, g5, gu0, fun j hj hj' => ⟨(g6 j hj hj').1, (g6 j hj hj').2.fut f⟩⟩
  · obtain ⟨B', v', us2, T'', cap, fr, g1, g2, g3, g4, g5, g6, g7, g8, g9⟩ := h.tip i k sz hi
    have hne : B' ≠ B := fun eq => by
      subst eq
      exact h.tbox i b B' v' k cap g1 (by rw [hb]; simp) h1
    exact ⟨B', v', us2, T'', cap, fr, g1, (hother B' hne).trans g2, g3, g4, g5, g6, g7, g8, g9⟩

/-- A variable takes another number. -/
theorem Rel.rename (h : Rel m0 w0 G E S F a w) {b id B : Nat} {cs : List SV} (hb : S.B b = some cs) (h1 : G.box b = some B) (hid : F id) :
    Rel m0 w0 { G with box := upd G.box id B } E (S.mov b id cs) (fun b => F b ∧ b ≠ id) a w ∧ Fut G w { G with box := upd G.box id B } w := by
  obtain ⟨hf1, hf2⟩ := h.fresh id hid
  have hfo := h.more.ofresh id hid
  have hne : b ≠ id := fun e => by rw [e, hf1] at h1; cases h1
  have hno := h.boxOf hb h1
  have f : Fut G w { G with box := upd G.box id B } w := by
    refine Fut.mk' (.refl w) (fun b' B' hb' => ?_) (fun _ B v k cap h => ⟨B, v, k, cap, h, Nat.le_refl _, fun _ => ⟨rfl, rfl, rfl, rfl⟩⟩) (fun _ => Nat.le_refl _) (fun _ _ _ => rfl) (fun _ _ h => h)
    by_cases e : b' = id
    · subst e; rw [hf1] at hb'; cases hb'
    · exact (upd_ne _ _ e).trans hb'
  have old : ∀ b', b' ≠ id → (S.mov b id cs).B b' ≠ none → S.B b' ≠ none ∧ b' ≠ b := fun b' e hn => by
    simp only [St.mov, upd_ne _ cs e] at hn
    split at hn
    · exact absurd rfl hn
    · rename_i e2; exact ⟨hn, e2⟩
  refine ⟨⟨fun k s hk => (h.env k s hk).fut f, h.size, h.few, fun b' cs' hb' ho => ?_, fun b1 b2 X e1 e2 g1 g2 => ?_, h.tip, h.tinj, h.tlt, fun i b' X v k c hi hb' e => ?_, fun b' hb' => ⟨(upd_ne _ _ hb'.2).trans (h.fresh b' hb'.1).1, (h.fresh b' hb'.1).2⟩, h.new, h.low, h.below, h.defers, fun g x hg => (h.glob g x hg).fut f, h.more.keep f (.refl w) (fun b' cs' X hb' ho' => by
      have e : b' ≠ id := fun e => by rw [e, hfo] at ho'; cases ho'
      simp only [St.mov, upd_ne _ cs e] at hb'
      split at hb'
      · cases hb'
      · exact hb') rfl (fun b' X ho' => by
      have e : b' ≠ id := fun e => by rw [e, hfo] at ho'; cases ho'
      exact upd_ne _ _ e) rfl (fun _ h => h.1) rfl⟩, f⟩
  · by_cases e : b' = id
    · subst e
      have : cs' = cs := by have := hb'; simp only [St.mov, upd_same, Option.some.injEq] at this; exact this.symm
      subst this
      obtain ⟨X, us, T, g1, g2, g3, g4, g5, gu, g6⟩ := h.box b _ hb hno
      obtain rfl : B = X := Option.some.inj (h1.symm.trans g1)
      exact ⟨B, us, T, upd_same _ _ _, g2, g3, g4, g5, gu, fun j hj hj' => ⟨(g6 j hj hj').1, (g6 j hj hj').2.fut f⟩⟩
    · simp only [St.mov, upd_ne _ cs e] at hb'
      split at hb'
      · cases hb'
      · obtain ⟨X, us, T, g1, g2, g3, g4, g5, gu, g6⟩ := h.box b' cs' hb' ho
        exact ⟨X, us, T, (upd_ne _ _ e).trans g1, g2, g3, g4, g5, gu, fun j hj hj' => ⟨(g6 j hj hj').1, (g6 j hj hj').2.fut f⟩⟩
  · by_cases c1 : b1 = id
    · by_cases c2 : b2 = id
      · rw [c1, c2]
      · exfalso
        subst c1
        obtain ⟨k1, k2⟩ := old b2 c2 e2
        have x1 : some B = some X := (upd_same G.box b1 B).symm.trans g1
        cases x1
        exact k2 (h.inj b2 b B k1 (by rw [hb]; simp) ((upd_ne _ _ c2).symm.trans g2) h1)
    · by_cases c2 : b2 = id
      · exfalso
        subst c2
        obtain ⟨k1, k2⟩ := old b1 c1 e1
        have x1 : some B = some X := (upd_same G.box b2 B).symm.trans g2
        cases x1
        exact k2 (h.inj b1 b B k1 (by rw [hb]; simp) ((upd_ne _ _ c1).symm.trans g1) h1)
      · exact h.inj b1 b2 X (old b1 c1 e1).1 (old b2 c2 e2).1 ((upd_ne _ _ c1).symm.trans g1) ((upd_ne _ _ c2).symm.trans g2)
  · by_cases c1 : b' = id
    · subst c1
      have x1 : some B = some X := (upd_same G.box b' B).symm.trans e
      cases x1
      exact h.tbox i b B v k c hi (by rw [hb]; simp) h1
    · exact h.tbox i b' X v k c hi (old b' c1 hb').1 ((upd_ne _ _ c1).symm.trans e)

theorem mov_less {b id : Nat} {cs : List SV} (h : b ≠ id) : (∀ x c, (S.mov b id cs).B x = some c → (S.new id cs).B x = some c) := by
  intro x c hx
  by_cases e : x = id
  · subst e; simpa only [St.mov, St.new, upd_same] using hx
  · simp only [St.mov, upd_ne _ cs e] at hx
    split at hx
    · cases hx
    · simpa only [St.new, upd_ne S.B cs e] using hx

/-- A row that nothing else leads to is appended to. -/
theorem does_append_sk {x y : Operand} {T e : TypeId} {sz by_ : Nat} {t : SV} {cs : List SV} {ds : List D} {n m b id : Nat} (ho : o.op = .call { callee := .builtin .append, args := #[x, y], argTypes := #[T, T] }) (h : Rel m0 w0 G E S F a w) (hid : F id)
    (hx : evalO E x = some (.sk b n sz)) (hb : S.B b = some cs) (hy : evalO E y = some t) (ht : rowS t = some (ds, m)) (hT : appOf P T = some (e, sz, by_)) (hm : 0 < m) (hcs : n * sz ≤ cs.length) (hds : ds.length = m * sz)
    (hbd : (n + m) * by_ ≤ 140737488355328) (hb2 : n + m ≤ 140737488355328) : Does P m0 w0 G E S F a w o (.sk id (n + m) sz) (S.mov b id (cs.take (n * sz) ++ ds.map .d)) (fun b => F b ∧ b ≠ id) := by
  obtain ⟨hu, i, z, hi, hz, h1, h2, h3, h4⟩ := appOf_ok hT
  have hX := evalO_ok h hx
  have hdl : 0 < ds.length := by rw [hds]; exact Nat.mul_pos hm h4
  obtain ⟨By, oy, cy, e2, _, vs, hvl, hvc, hvv⟩ := (rowS_ok ht (evalO_ok h hy)).cells hdl
  have hvc' : ∀ j v, vs[j]? = some v → w.cell? ((⟨By, oy, none⟩ : Addr).add j) = some v := fun j v hj => by rw [add_off]; exact (hvc j v hj).2
  have hvl2 : vs.length = m * i.size := by rw [hvl, hds, h2]
  have hv1 : ∀ u ∈ vs, u.oneCell' = true := fun u hu => by
    obtain ⟨j, hj, rfl⟩ := List.getElem_of_mem hu
    obtain ⟨g1, g2⟩ := hvv j (by omega) hj
    exact g2.one g1
  generalize hA : a.eval x = A at hX
  obtain ⟨B, c, us, T', fr, hg, hnc, rfl, hB, hroom⟩ := hX.sk_inv
  have hno := h.boxOf hb hg
  obtain ⟨B', us0, T0, k1, k2, g3, g4, g5, gu, g6⟩ := h.box b cs hb hno
  obtain rfl : B = B' := Option.some.inj (hg.symm.trans k1)
  rw [hB] at k2; cases k2
  have hfr : T0.2 = (0, 0) := gu
  obtain ⟨hf1, hf2⟩ := h.fresh id hid
  have hne : b ≠ id := fun e => by rw [e, hf1] at hg; cases hg
  have hmul : (n + m) * sz = n * sz + m * sz := Nat.add_mul ..
  by_cases hfit : n + m ≤ c
  · have hle : (n + m) * sz ≤ c * sz := Nat.mul_le_mul_right _ hfit
    have hr := run_append_room2 (P := P) (w := w) (ty := o.type) hu hi B 0 n c us T0.1 hB gu ⟨By, oy, none⟩ m cy vs hvl2 hvc' hv1 hfit (by rw [Nat.zero_add, hvl2, h2]; omega)
    have hr2 := run_builtin_append ho hA e2 hr
    rw [Nat.zero_add, h2] at hr2
    have hlenT : (us.toList.take (n * sz)).length = n * sz := by simp; omega
    have hvs : vs.length = m * sz := by rw [hvl2, h2]
    obtain ⟨r1, f1⟩ := h.set_box hb hg hB (us' := (us.toList.take (n * sz) ++ vs ++ us.toList.drop (n * sz + vs.length)).toArray) (cs' := cs.take (n * sz) ++ ds.map .d) (by simp; omega) (by simp; omega) (fun W G' f j hj hj' => by
      have hlenC : (cs.take (n * sz)).length = n * sz := by simp; omega
      rcases Nat.lt_or_ge j (n * sz) with hlt | hge
      · have e3 : (cs.take (n * sz) ++ ds.map SV.d)[j] = cs[j]'(by omega) := by rw [List.getElem_append_left (by omega)]; simp
        have e4 : ((us.toList.take (n * sz) ++ vs ++ us.toList.drop (n * sz + vs.length)).toArray)[j] = us[j]'(by omega) := by
          simp only [List.getElem_toArray, List.append_assoc]
          rw [List.getElem_append_left (by omega)]
          simp
        rw [e3, e4]
        exact ⟨(g6 j (by omega) (by omega)).1, (g6 j (by omega) (by omega)).2.fut f⟩
      · have hj2 : j - n * sz < ds.length := by
          have := hj
          rw [List.length_append, hlenC, List.length_map] at this
          omega
        have e3 : (cs.take (n * sz) ++ ds.map SV.d)[j] = .d (ds[j - n * sz]'hj2) := by rw [List.getElem_append_right (by omega)]; simp [hlenC]
        have e4 : ((us.toList.take (n * sz) ++ vs ++ us.toList.drop (n * sz + vs.length)).toArray)[j] = vs[j - n * sz]'(by omega) := by
          simp only [List.getElem_toArray, List.append_assoc]
          rw [List.getElem_append_right (by omega), List.getElem_append_left (by omega)]
          simp [hlenT]
        rw [e3, e4]
        exact ⟨(hvv _ hj2 (by omega)).1, .d ((hvv _ hj2 (by omega)).2.fut f)⟩)
    have hbs : (S.set b (cs.take (n * sz) ++ ds.map .d)).B b = some (cs.take (n * sz) ++ ds.map .d) := upd_same _ _ _
    obtain ⟨r2, f2⟩ := r1.rename hbs hg hid
    have eS : (S.set b (cs.take (n * sz) ++ ds.map .d)).mov b id (cs.take (n * sz) ++ ds.map .d) = S.mov b id (cs.take (n * sz) ++ ds.map .d) := by
      unfold St.mov St.set
      congr 1
      funext x
      by_cases e : x = id
      · subst e; simp only [upd_same]
      · simp only [upd_ne _ _ e]
        split
        · rfl
        · rename_i e'; exact upd_ne _ _ e'
    rw [eS] at r2
    obtain ⟨us9, kk1, kk2⟩ := (f1.trans f2).row _ _ _ _ hB
    exact ⟨_, _, _, _, hr2, .inl rfl, .sk (upd_same _ _ _) hfit kk1 (by rw [kk2]; exact hroom), r2, f1.trans f2⟩
  · have hus : ∀ j v, ((us.toList.take (n * sz))[j]? = some v) → w.cell? ((⟨B, 0, none⟩ : Addr).add j) = some v := fun j v hj => by
      rw [add_off, Nat.zero_add, cell_of_heap hB]
      rw [List.getElem?_take] at hj
      split at hj
      · simpa using hj
      · cases hj
    have hlenT : (us.toList.take (n * sz)).length = n * sz := by simp; omega
    have hr := run_append_grow (P := P) w T o.type e i z hu hi hz ⟨B, 0, none⟩ n c (us.toList.take (n * sz)) (by rw [hlenT, h2]) hus ⟨By, oy, none⟩ m cy vs hvl2 hvc' (by omega) (by omega) (growslice_fits (by omega) (by rw [h3]; exact hbd))
    have hr2 := run_builtin_append ho hA e2 hr
    have hge := grownCap_ge w (n + m) c e
    obtain ⟨G', r1, f, r2⟩ := h.draw.new_box (id := id) hid (cs.take (n * sz) ++ ds.map .d) ((us.toList.take (n * sz)).toArray ++ vs.toArray ++ Builtin.zeroCells z.cells (grownCap w (n + m) c e - (n + m))) e (by simp; omega) (fun j hj hj' => by
      have hlenC : (cs.take (n * sz)).length = n * sz := by simp; omega
      rcases Nat.lt_or_ge j (n * sz) with hlt | hge
      · have e3 : (cs.take (n * sz) ++ ds.map SV.d)[j] = cs[j]'(by omega) := by rw [List.getElem_append_left (by omega)]; simp
        have e4 : ((us.toList.take (n * sz)).toArray ++ vs.toArray ++ Builtin.zeroCells z.cells (grownCap w (n + m) c e - (n + m)))[j] = us[j]'(by omega) := by
          have hl1 : ((us.toList.take (n * sz)).toArray ++ vs.toArray).size = n * sz + m * sz := by rw [Array.size_append, List.size_toArray, List.size_toArray, hlenT, hvl2, h2]
          rw [Array.getElem_append_left (by omega), Array.getElem_append_left (by simp; omega)]
          simp
        rw [e3, e4]
        exact ⟨(g6 j (by omega) (by omega)).1, (g6 j (by omega) (by omega)).2.fut (fut_draw G w)⟩
      · have hj2 : j - n * sz < ds.length := by
          have := hj
          rw [List.length_append, hlenC, List.length_map] at this
          omega
        have e3 : (cs.take (n * sz) ++ ds.map SV.d)[j] = .d (ds[j - n * sz]'hj2) := by rw [List.getElem_append_right (by omega)]; simp [hlenC]
        have e4 : ((us.toList.take (n * sz)).toArray ++ vs.toArray ++ Builtin.zeroCells z.cells (grownCap w (n + m) c e - (n + m)))[j] = vs[j - n * sz]'(by omega) := by
          have hl1 : ((us.toList.take (n * sz)).toArray ++ vs.toArray).size = n * sz + m * sz := by rw [Array.size_append, List.size_toArray, List.size_toArray, hlenT, hvl2, h2]
          rw [Array.getElem_append_left (by omega), Array.getElem_append_right (by simp; omega)]
          simp only [List.size_toArray, hlenT, List.getElem_toArray]
        rw [e3, e4]
        exact ⟨(hvv _ hj2 (by omega)).1, .d ((hvv _ hj2 (by omega)).2.fut (fut_draw G w))⟩)
    have hk : Rel m0 w0 G' E (S.mov b id (cs.take (n * sz) ++ ds.map .d)) (fun b => F b ∧ b ≠ id) a (w.drew.alloc (.cells ((us.toList.take (n * sz)).toArray ++ vs.toArray ++ Builtin.zeroCells z.cells (grownCap w (n + m) c e - (n + m))) e)) := by
      have lessB := mov_less (S := S) (cs := cs.take (n * sz) ++ ds.map SV.d) hne
      have ne : ∀ x, (S.mov b id (cs.take (n * sz) ++ ds.map .d)).B x ≠ none → (S.new id (cs.take (n * sz) ++ ds.map .d)).B x ≠ none := fun x hx e => by
        obtain ⟨c', hc'⟩ := Option.ne_none_iff_exists'.1 hx
        rw [lessB x c' hc'] at e; cases e
      exact ⟨r1.env, r1.size, r1.few, fun b cs hb ho => r1.box b cs (lessB b cs hb) ho, fun b b' B hb hb' => r1.inj b b' B (ne b hb) (ne b' hb'), r1.tip, r1.tinj, r1.tlt, fun i b B v k c hi hb => r1.tbox i b B v k c hi (ne b hb), r1.fresh, r1.new, r1.low, r1.below, r1.defers, r1.glob,
        r1.more.keep (Fut.refl _ _) (.refl _) (fun b cs B hb _ => lessB b cs hb) rfl (fun _ _ _ => rfl) rfl (fun _ h => h) rfl⟩
    refine ⟨_, _, _, G', hr2, .inl rfl, .sk r2 hge (heap_alloc_self (w := w.drew)) ?_, hk, (fut_draw G w).trans f⟩
    rw [Array.size_append, Array.size_append, List.size_toArray, List.size_toArray, hlenT, hvl2, size_zeroCells, h1, h2, ← Nat.add_mul, ← Nat.add_mul]
    exact Nat.mul_le_mul_right _ (by omega)

/-- Such a row is cut. -/
theorem does_slice_sk {T e : TypeId} {x : Operand} {hi : Option Operand} {b n sz sz' : Nat} {u : Int} (ho : o.op = .slice T x none hi none) (h : Rel m0 w0 G E S F a w) (hx : evalO E x = some (.sk b n sz))
    (hT : P.underlying T = some (.slice e)) (hs : szOf P e = some sz') (hhi : bndS E n hi = some u) (c2 : 0 ≤ u) (c3 : u ≤ n) : Does P m0 w0 G E S F a w o (.sk b u.toNat sz) S F := by
  obtain ⟨B, c, us, T', fr, hg, hc, hA, hB, hr⟩ := (evalO_ok h hx).sk_inv
  have hrun := run_slice ho h hA hT hs (l := 0) (by rfl) hhi (Int.le_refl _) c2 (by omega)
  have e1 : (if c = (0 : Int).toNat then some (⟨B, 0, none⟩ : Addr) else (some (⟨B, 0, none⟩ : Addr)).map (·.add ((0 : Int).toNat * sz'))) = some ⟨B, 0, none⟩ := by
    split
    · rfl
    · show some ((⟨B, 0, none⟩ : Addr).add _) = _
      rw [add_off]; simp
  rw [e1] at hrun
  refine .quiet h hrun (.sk hg (by simp; omega) hB ?_)
  simpa using hr

/-- A row that is made whole, which may be appended to and cut. -/
theorem does_buildSlice_sk {T e : TypeId} {n sz id : Nat} {ps : Array (Nat × Operand)} {zs cells : List D} {l : List (Nat × List D)} (ho : o.op = .buildSlice T n ps) (h : Rel m0 w0 G E S F a w) (hid : F id) (hu : P.underlying T = some (.slice e)) (hs : szOf P e = some sz)
    (hz : zeroD P e = some zs) (hzl : zs.length = sz) (hn : n * sz ≤ 16777216) (hp : partsD E ps.toList = some l)
    (hf : fillL (fun i => some (i * sz, sz)) ((List.range (n * sz)).map fun j => zs.getD (j % sz) default) l = some cells) (hlen : n * sz ≤ cells.length) : Does P m0 w0 G E S F a w o (.sk id n sz) (S.new id (cells.map .d)) (fun b => F b ∧ b ≠ id) := by
  obtain ⟨us, h1, h4, h5⟩ := run_buildSlice ho h hu hs hz hzl hn hp hf
  obtain ⟨G', g1, f, g2⟩ := h.new_box (id := id) hid (cells.map .d) us e (by simp; omega) (fun j hj hj' => by
    have hj2 : j < cells.length := by simpa using hj
    have := h5 j hj2 hj'
    simp only [List.getElem_map]
    exact ⟨this.1, .d this.2⟩)
  exact ⟨_, _, _, G', h1, .inl rfl, .sk g2 (Nat.le_refl n) heap_alloc_self (by omega), g1, f⟩

/-! ### closures -/
theorem does_makeFunc {fn : Fn} {first caps : Array Operand} {xs ys : List SV} (ho : o.op = .makeFunc fn first caps) (h : Rel m0 w0 G E S F a w) (h1 : (first.toList.map a.eval).length = xs.length) (h2 : ∀ j (hj : j < xs.length) (hj' : j < (first.toList.map a.eval).length), VR G w xs[j] (first.toList.map a.eval)[j])
    (h3 : (caps.toList.map a.eval).length = ys.length) (h4 : ∀ j (hj : j < ys.length) (hj' : j < (caps.toList.map a.eval).length), VR G w ys[j] (caps.toList.map a.eval)[j]) : Does P m0 w0 G E S F a w o (.fn fn xs ys) S F := by
  refine .quiet h (u := .func fn (first.toList.map a.eval).toArray (caps.toList.map a.eval).toArray) ?_ (.fn h1 h3 h2 h4)
  have e : ∀ x : Array Operand, x.map a.eval = (x.toList.map a.eval).toArray := fun x => by cases x; simp
  simp only [execOp, ho, Instr.makeFunc, e]
  rfl

/-! ### objects: maps and walks -/
theorem heap_set_same {w : World} {B : Nat} {o' : Obj} (h : B < w.heap.size) : (w.heap.setIfInBounds B o')[B]? = some o' := by simp [h]
theorem heap_set_other {w : World} {B X : Nat} {o' : Obj} (h : X ≠ B) : (w.heap.setIfInBounds B o')[X]? = w.heap[X]? := by simp [Ne.symm h]

/-- An object of the shadow's turns. -/
theorem Rel.set_obj (h : Rel m0 w0 G E S F a w) {b B : Nat} {cs cs' : List SV} (hb : S.B b = some cs) (hg : G.obj b = some B) {o' : Obj} (hnc : ∀ us T fr, o' ≠ .cells us T fr)
    (hv : ∀ W, Fut G w G W → W.heap[B]? = some o' → ObjR G W cs' B) {W : World} (hW : W = { w with heap := w.heap.setIfInBounds B o' }) :
    Rel m0 w0 G E (S.set b cs') F a W ∧ Fut G w G W := by
  obtain ⟨k1, k2, k3, k4⟩ := h.more.obj b cs B hb hg
  obtain ⟨o0, ho0, hnc0⟩ := k4.other
  have hlt := lt_of_heap ho0
  have hother : ∀ X, X ≠ B → W.heap[X]? = w.heap[X]? := fun X hX => by subst hW; exact heap_set_other hX
  have hnew : W.heap[B]? = some o' := by subst hW; exact heap_set_same hlt
  have hsize : W.heap.size = w.heap.size := by subst hW; simp
  have f : Fut G w G W := by
    refine ⟨fun _ _ h => h, fun _ B v k cap h => ⟨B, v, k, cap, h, Nat.le_refl _, fun _ => ⟨rfl, rfl, rfl, rfl⟩⟩, fun _ => Nat.le_refl _, fun X j hj => ?_, fun _ _ h => h, fun X us T fr hX => ?_, fun X es c hX hh => ?_⟩
    · by_cases e : X = B
      · subst e; rw [k2] at hj; omega
      · simp only [World.cell?, hother X e]
    · by_cases e : X = B
      · subst e; rw [ho0] at hX; cases hX; exact absurd rfl (hnc0 _ _ _)
      · exact ⟨us, (hother X e).trans hX, rfl⟩
    · by_cases e : X = B
      · subst e; rw [k2] at hX; omega
      · exact (hother X e).trans hh
  have keepB : ∀ b', (S.set b cs').B b' ≠ none → S.B b' ≠ none := fun b' hb' => by
    by_cases e : b' = b
    · subst e; rw [hb]; simp
    · simpa only [St.set, upd_ne S.B _ e] using hb'
  have hbel : Below w0.heap.size w0 W := h.below.trans ⟨by subst hW; rfl, by subst hW; rfl, by subst hW; rfl, by omega, fun i hi => hother i (by omega)⟩
  have hmok : S.gl cleanAt ≠ none → MOK G.mark W := fun hgl X hX => by
    have hne : X ≠ B := fun e => by subst e; rw [k2] at hX; omega
    rcases h.more.clean hgl X hX with ⟨us, T, h2⟩ | ⟨us, T, fr, h2, h3⟩ | ⟨es, c, h2⟩
    · exact .inl ⟨us, T, (hother X hne).trans h2⟩
    · exact .inr (.inl ⟨us, T, fr, (hother X hne).trans h2, h3⟩)
    · exact .inr (.inr ⟨es, c, (hother X hne).trans h2⟩)
  refine ⟨⟨fun k s hk => (h.env k s hk).fut f, h.size, h.few, fun b' cs2 hb' ho' => ?_, fun b1 b2 B' e1 e2 => h.inj b1 b2 B' (keepB b1 e1) (keepB b2 e2), fun i k sz hi => ?_, h.tinj, fun i B v k c hi => by have := h.tlt i B v k c hi; omega, fun i b' B v k c hi hb' => h.tbox i b' B v k c hi (keepB b' hb'), h.fresh, fun i hi => h.new i (by omega), h.low, hbel, h.defers, fun g x hg => (h.glob g x hg).fut f,
    ⟨fun b' cs2 X hb' hx => ?_, fun b1 b2 X e1 e2 g1 g2 => h.more.oinj b1 b2 X (keepB b1 e1) (keepB b2 e2) g1 g2, h.more.ofresh, hmok⟩⟩, f⟩
  · have e : b' ≠ b := fun e => by subst e; rw [hg] at ho'; cases ho'
    have hb2 : S.B b' = some cs2 := by simpa only [St.set, upd_ne S.B _ e] using hb'
    obtain ⟨B', us2, T'', g1, g2, g3, g4, g5, gu0, g6⟩ := h.box b' cs2 hb2 ho'
    have hne : B' ≠ B := fun eq => by subst eq; rw [ho0] at g2; cases g2; exact absurd rfl (hnc0 _ _ _)
    exact ⟨B', us2, T'', g1, (hother B' hne).trans g2, g3, g4, g5, gu0, fun j hj hj' => ⟨(g6 j hj hj').1, (g6 j hj hj').2.fut f⟩⟩
  · obtain ⟨B', v', us2, T'', cap, fr, g1, g2, g3, g4, g5, g6, g7, g8, g9⟩ := h.tip i k sz hi
    have hne : B' ≠ B := fun eq => by subst eq; rw [ho0] at g2; cases g2; exact absurd rfl (hnc0 _ _ _)
    exact ⟨B', v', us2, T'', cap, fr, g1, (hother B' hne).trans g2, g3, g4, g5, g6, g7, g8, g9⟩
  · by_cases e : b' = b
    · subst e
      have e1 : cs2 = cs' := by have := hb'; simp only [St.set, upd_same, Option.some.injEq] at this; exact this.symm
      rw [hg] at hx; cases hx
      rw [e1]
      exact ⟨k1, k2, k3, hv W f hnew⟩
    · have hb2 : S.B b' = some cs2 := by simpa only [St.set, upd_ne S.B _ e] using hb'
      obtain ⟨g1, g2, g3, g4⟩ := h.more.obj b' cs2 X hb2 hx
      have hne : X ≠ B := fun eq => by subst eq; exact e (h.more.oinj b' b X (by rw [hb2]; simp) (by rw [hb]; simp) hx hg)
      exact ⟨g1, g2, g3, g4.fut f (hother X hne)⟩

/-- A new object. -/
theorem Rel.new_obj (h : Rel m0 w0 G E S F a w) {id : Nat} (hid : F id) (cs : List SV) (o' : Obj) (hnc : ∀ us T fr, o' ≠ .cells us T fr)
    (hv : ∀ G' W, Fut G w G' W → W.heap[w.heap.size]? = some o' → ObjR G' W cs w.heap.size) :
    ∃ G', Rel m0 w0 G' E (S.new id cs) (fun b => F b ∧ b ≠ id) a (w.alloc o') ∧ Fut G w G' (w.alloc o') ∧ G'.obj id = some w.heap.size := by
  obtain ⟨hf1, hf2⟩ := h.fresh id hid
  have hfo := h.more.ofresh id hid
  have hk := h.alloc o'
  have f : Fut G w { G with obj := upd G.obj id w.heap.size } (w.alloc o') := by
    refine Fut.mk' (calm_alloc w _) (fun _ _ h => h) (fun _ B v k cap h => ⟨B, v, k, cap, h, Nat.le_refl _, fun _ => ⟨rfl, rfl, rfl, rfl⟩⟩) (fun _ => Nat.le_refl _) (h.fut_alloc _).cell (fun b B hb => ?_)
    by_cases e : b = id
    · subst e; rw [hfo] at hb; cases hb
    · exact (upd_ne _ _ e).trans hb
  have oldB : ∀ b, b ≠ id → ∀ cs', (S.new id cs).B b = some cs' → S.B b = some cs' := fun b e cs' hb => by simpa only [St.new, upd_ne S.B cs e] using hb
  have boxes : ∀ b X, (S.new id cs).B b ≠ none → G.box b = some X → S.B b ≠ none := fun b X hb hx => by
    have e : b ≠ id := fun e => by rw [e, hf1] at hx; cases hx
    obtain ⟨c', hc'⟩ := Option.ne_none_iff_exists'.1 hb
    rw [oldB b e c' hc']; simp
  refine ⟨{ G with obj := upd G.obj id w.heap.size }, ⟨fun k s hk => (h.env k s hk).fut f, h.size, h.few, fun b cs' hb ho => ?_, fun b b' B hb hb' e1 e2 => h.inj b b' B (boxes b B hb e1) (boxes b' B hb' e2) e1 e2, fun i k sz hi => ?_, h.tinj, hk.tlt, fun i b B v k c hi hb e => h.tbox i b B v k c hi (boxes b B hb e) e, fun b hb => h.fresh b hb.1, hk.new, h.low, hk.below, h.defers, fun g x hg => (h.glob g x hg).fut f,
    ⟨fun b cs' B hb hx => ?_, fun b b' B hb hb' e1 e2 => ?_, fun b hb => (upd_ne _ _ hb.2).trans (h.more.ofresh b hb.1), fun hgl => hk.more.clean hgl⟩⟩, f, upd_same _ _ _⟩
  · have e : b ≠ id := fun e => by
      subst e
      have : (upd G.obj b w.heap.size) b = none := ho
      rw [upd_same] at this; cases this
    have ho' : G.obj b = none := (upd_ne _ _ e).symm.trans ho
    obtain ⟨B, us', T', h1, h2, h3, h4, h5, hu0, h6⟩ := h.box b cs' (oldB b e cs' hb) ho'
    exact ⟨B, us', T', h1, (heap_alloc_lt (lt_of_heap h2)).trans h2, h3, h4, h5, hu0, fun j hj hj' => ⟨(h6 j hj hj').1, (h6 j hj hj').2.fut f⟩⟩
  · obtain ⟨B, v, us', T', cap, fr, h1, h2, r⟩ := h.tip i k sz hi
    exact ⟨B, v, us', T', cap, fr, h1, (heap_alloc_lt (lt_of_heap h2)).trans h2, r⟩
  · by_cases e : b = id
    · subst e
      have e1 : cs' = cs := by have := hb; simp only [St.new, upd_same, Option.some.injEq] at this; exact this.symm
      have e2 : some w.heap.size = some B := (upd_same G.obj b w.heap.size).symm.trans hx
      cases e2
      rw [e1]
      exact ⟨hf1, h.new _ (Nat.le_refl _), h.below.size, hv _ _ f heap_alloc_self⟩
    · have hx' : G.obj b = some B := (upd_ne _ _ e).symm.trans hx
      obtain ⟨g1, g2, g3, g4⟩ := h.more.obj b cs' B (oldB b e cs' hb) hx'
      obtain ⟨o0, ho0, _⟩ := g4.other
      exact ⟨g1, g2, g3, g4.fut f (heap_alloc_lt (lt_of_heap ho0))⟩
  · have lt : ∀ b B, b ≠ id → (S.new id cs).B b ≠ none → (upd G.obj id w.heap.size) b = some B → B < w.heap.size := fun b B e hb hx => by
      obtain ⟨c', hc'⟩ := Option.ne_none_iff_exists'.1 hb
      obtain ⟨_, _, _, g4⟩ := h.more.obj b c' B (oldB b e c' hc') ((upd_ne _ _ e).symm.trans hx)
      obtain ⟨o0, ho0, _⟩ := g4.other
      exact lt_of_heap ho0
    have self : ∀ B, (upd G.obj id w.heap.size) id = some B → w.heap.size = B := fun B hx => by rw [upd_same] at hx; exact Option.some.inj hx
    by_cases c1 : b = id
    · by_cases c2 : b' = id
      · rw [c1, c2]
      · exfalso
        subst c1
        have := self B e1; have := lt b' B c2 hb' e2; omega
    · by_cases c2 : b' = id
      · exfalso
        subst c2
        have := self B e2; have := lt b B c1 hb e1; omega
      · have ne : ∀ b, b ≠ id → (S.new id cs).B b ≠ none → S.B b ≠ none := fun b e hb => by
          obtain ⟨c', hc'⟩ := Option.ne_none_iff_exists'.1 hb
          rw [oldB b e c' hc']; simp
        exact h.more.oinj b b' B (ne b c1 hb) (ne b' c2 hb') ((upd_ne _ _ c1).symm.trans e1) ((upd_ne _ _ c2).symm.trans e2)

theorem does_makeMap {T : TypeId} {id : Nat} (ho : o.op = .makeMap T none) (h : Rel m0 w0 G E S F a w) (hid : F id) : Does P m0 w0 G E S F a w o (.mv id) (S.new id [.mc [] []]) (fun b => F b ∧ b ≠ id) := by
  obtain ⟨G', g1, f, g2⟩ := h.new_obj hid [.mc [] []] (.map #[] 0) (fun _ _ _ e => by cases e) (fun G' W f hW => .mp #[] hW rfl rfl (fun j hj => by simp at hj) (fun j hj => by simp at hj) (fun j hj => by simp at hj))
  refine ⟨_, _, _, G', ?_, .inl rfl, .mv g2, g1, f⟩
  simp only [execOp, ho, Instr.makeMap]
  simp [newObj]
  rfl

/-- The place of a text among a map's keys. -/
def idxK : List D → ByteArray → Option (Option Nat)
  | [], _ => some none
  | .v (.string k) :: ks, s => if k = s then some (some 0) else (idxK ks s).map (·.map (· + 1))
  | _, _ => none

theorem idxK_cons {x : D} {ks : List D} {s : ByteArray} {r : Option Nat} (h : idxK (x :: ks) s = some r) : ∃ k, x = .v (.string k) ∧ ((k = s ∧ r = some 0) ∨ (k ≠ s ∧ ∃ r', idxK ks s = some r' ∧ r = r'.map (· + 1))) := by
  unfold idxK at h
  split at h
  · rename_i e; cases e
  · rename_i k ks' e
    cases e
    refine ⟨k, rfl, ?_⟩
    split at h
    · simp only [Option.some.injEq] at h; exact .inl ⟨by assumption, h.symm⟩
    · simp only [Option.map_eq_some_iff] at h
      obtain ⟨r', h1, h2⟩ := h
      exact .inr ⟨by assumption, r', h1, h2.symm⟩
  · cases h

theorem idxK_lt : ∀ {ks : List D} {s : ByteArray} {j : Nat}, idxK ks s = some (some j) → j < ks.length
  | [], s, j, h => by simp [idxK] at h
  | x :: ks, s, j, h => by
    obtain ⟨k, rfl, ⟨_, h1⟩ | ⟨_, r', h1, h2⟩⟩ := idxK_cons h
    · simp only [Option.some.injEq] at h1; subst h1; simp
    · cases r' with
      | none => cases h2
      | some j' =>
        simp only [Option.map_some, Option.some.injEq] at h2
        subst h2
        have := idxK_lt h1
        simp; omega

/-- The machine looks for a text among a map's keys. -/
theorem find_str : ∀ {ks : List D} {es : List MapEntry} {s : ByteArray} {r : Option Nat} (i : Nat), idxK ks s = some r → es.length = ks.length → (∀ j (h : j < ks.length) (h' : j < es.length), PV G.mark w ks[j] es[j].key) →
    (r = none ∧ Instr.findNow .string (.string s) es i = some none) ∨ ∃ j, r = some j ∧ ∃ hj : j < es.length, es[j].key = .string s ∧ Instr.findNow .string (.string s) es i = some (some (i + j, es[j].val))
  | [], es, s, r, i, h, hl, hk => by
    have : es = [] := by simpa using hl
    subst this
    simp only [idxK, Option.some.injEq] at h
    exact .inl ⟨h.symm, rfl⟩
  | x :: ks, [], s, r, i, h, hl, hk => by simp at hl
  | x :: ks, e :: es, s, r, i, h, hl, hk => by
    obtain ⟨k, hx, h⟩ := idxK_cons h
    have h0 : PV G.mark w x e.key := hk 0 (by simp) (by simp)
    have hkey : e.key = .string k := by
      rw [hx] at h0
      exact (VR.v_inv (G := G) (w := w) (.d h0)).1
    have sn : Instr.sameNow .string (.string s) e.key = some (s == k) := by rw [hkey]; rfl
    rcases h with ⟨hs, rfl⟩ | ⟨hs, r', h1, rfl⟩
    · refine .inr ⟨0, rfl, by simp, by simp [hkey, hs], ?_⟩
      have : (s == k) = true := (MapKept.bytes_beq _ _).2 hs.symm
      simp [Instr.findNow, sn, this]
    · have hb : (s == k) = false := by
        cases hc : s == k with
        | false => rfl
        | true => exact absurd ((MapKept.bytes_beq _ _).1 hc).symm hs
      rcases find_str (i + 1) h1 (by simpa using hl) (fun j hj hj' => hk (j + 1) (by simpa using hj) (by simpa using hj')) with ⟨rfl, h2⟩ | ⟨j, rfl, hj, h2, h3⟩
      · exact .inl ⟨rfl, by simp [Instr.findNow, sn, hb, h2]⟩
      · refine .inr ⟨j + 1, rfl, by simpa using hj, by simpa using h2, ?_⟩
        simp [Instr.findNow, sn, hb, h3]; omega

/-- A map type whose keys are texts: its elements' type. -/
def mapOf (P : Program) (T : TypeId) : Option TypeId :=
  match P.underlying T with
  | some (.map k e) => match P.underlying k with
    | some .string => some e
    | _ => none
  | _ => none
theorem mapOf_ok {T e : TypeId} (h : mapOf P T = some e) : ∃ k, P.underlying T = some (.map k e) ∧ P.underlying k = some .string := by
  unfold mapOf at h
  split at h
  · rename_i k e' hu
    split at h
    · rename_i hk; simp only [Option.some.injEq] at h; subst h; exact ⟨k, hu, hk⟩
    · cases h
  · cases h

/-- What a look-up gives: of what was found, or nothing. -/
def lookR (P : Program) (e : TypeId) (v : Option SV) (ok : Bool) : Option SV :=
  match v with
  | some v => some (if ok then .tu [v, .d (.v (.bool true))] else v)
  | none => (zeroS P e).map fun z => if ok then .tu [z, .d (.v (.bool false))] else z
def lookS (P : Program) (T : TypeId) (ks : List D) (vs : List SV) (s : ByteArray) (ok : Bool) : Option SV :=
  match mapOf P T, idxK ks s with
  | some e, some (some j) => match vs[j]? with
    | some v => lookR P e (some v) ok
    | none => none
  | some e, some none => lookR P e none ok
  | _, _ => none

/-- A look-up by a text. -/
theorem does_lookup_str {T : TypeId} {x y : Operand} {ok : Bool} {ks : List D} {vs : List SV} {es : Array MapEntry} {B c : Nat} {s : ByteArray} {r : SV} (ho : o.op = .lookup T x y ok) (h : Rel m0 w0 G E S F a w) (hx : a.eval x = .map (some B)) (hb : w.heap[B]? = some (.map es c))
    (hy : evalO E y = some (.d (.v (.string s)))) (h1 : es.size = ks.length) (h2 : es.size = vs.length) (hk : ∀ j (h : j < ks.length) (h' : j < es.size), PV G.mark w ks[j] es[j].key) (hv : ∀ j (h : j < vs.length) (h' : j < es.size), VR G w vs[j] es[j].val)
    (hr : lookS P T ks vs s ok = some r) : Does P m0 w0 G E S F a w o r S F := by
  unfold lookS at hr
  have key : ∀ {e : TypeId} {i : Option Nat}, mapOf P T = some e → idxK ks s = some i → ∃ k, P.underlying T = some (.map k e) ∧ (Instr.checkKey es.isEmpty 10000 k (.string s)).run P w = .ok () w ∧
      ((i = none ∧ (Instr.findKey k (.string s) es.toList).run P w = .ok none w) ∨ ∃ j, i = some j ∧ ∃ hj : j < es.size, (Instr.findKey k (.string s) es.toList).run P w = .ok (some (j, es[j].val)) w) := by
    intro e i hT hi
    obtain ⟨k, hu, hks⟩ := mapOf_ok hT
    refine ⟨k, hu, MapKept.run_checkKey hks (by simp [MapKept.IsKey]) _ _, ?_⟩
    rcases find_str (G := G) (w := w) (es := es.toList) 0 hi (by simpa using h1) (fun j hj hj' => by simpa using hk j hj (by simpa using hj')) with ⟨rfl, h3⟩ | ⟨j, rfl, hj, h3, h4⟩
    · exact .inl ⟨rfl, MapKept.run_findKey hks h3⟩
    · refine .inr ⟨j, rfl, by simpa using hj, ?_⟩
      have := MapKept.run_findKey (P := P) (w := w) hks h4
      simpa using this
  split at hr
  · rename_i e j hT hi
    obtain ⟨k, hu, hck, hf⟩ := key hT hi
    obtain ⟨j', e1, hj, hf⟩ := hf.resolve_left (fun q => by cases q.1)
    cases e1
    split at hr
    · rename_i v hvj
      obtain ⟨hjl, rfl⟩ := List.getElem?_eq_some_iff.1 hvj
      simp only [lookR, Option.some.injEq] at hr
      subst hr
      have hval := hv j hjl hj
      cases ok with
      | false =>
        refine .quiet h (u := es[j].val) ?_ (by simpa using hval)
        simp only [execOp, ho, hx, evalO_v h hy, Instr.lookup]
        simp [run_under hu, MapKept.run_getObj_map hb, hck, hf]
      | true =>
        refine .quiet h (u := .tuple #[es[j].val, .bool true]) ?_ (by
          have := VR.tu2 hval (VR.d (G := G) (w := w) (PV.v (x := .bool true) rfl))
          simpa using this)
        simp only [execOp, ho, hx, evalO_v h hy, Instr.lookup]
        simp [run_under hu, MapKept.run_getObj_map hb, hck, hf]
    · cases hr
  · rename_i e hT hi
    obtain ⟨k, hu, hck, hf⟩ := key hT hi
    obtain ⟨_, hf⟩ := hf.resolve_right (fun ⟨j, e1, _⟩ => by cases e1)
    simp only [lookR, Option.map_eq_some_iff] at hr
    obtain ⟨z, hz, rfl⟩ := hr
    obtain ⟨u, hzu, hzv⟩ := zeroS_ok (G := G) (w := w) hz
    cases ok with
    | false =>
      refine .quiet h (u := u) ?_ (by simpa using hzv)
      simp only [execOp, ho, hx, evalO_v h hy, Instr.lookup]
      simp [run_under hu, MapKept.run_getObj_map hb, hck, hf, run_zero hzu]
    | true =>
      refine .quiet h (u := .tuple #[u, .bool false]) ?_ (by
        have := VR.tu2 hzv (VR.d (G := G) (w := w) (PV.v (x := .bool false) rfl))
        simpa using this)
      simp only [execOp, ho, hx, evalO_v h hy, Instr.lookup]
      simp [run_under hu, MapKept.run_getObj_map hb, hck, hf, run_zero hzu]
  · cases hr
end
end Go.Sh
