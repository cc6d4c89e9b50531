/- THE SHADOW, 2: what one operation does to the shadow, and that the machine does it too. Over any program. -/
import Derived.Test.YtghbkljdpikpdaaShA
set_option linter.unusedVariables false
set_option linter.unusedSimpArgs false
namespace Go.Sh
open Go.RowKit (Below)

/-! ### the world goes on -/
section
variable {m0 : Nat → Nat} {w0 : World} {G : Gh} {E : Env} {S : St} {F : Nat → Prop} {a : Act} {w : World}

theorem cell_of_heap {w : World} {B : Nat} {us : Array Value} {T : TypeId} {fr : Nat × Nat} (h : w.heap[B]? = some (.cells us T fr)) (j : Nat) : w.cell? ⟨B, j, none⟩ = us[j]? := by
  simp [World.cell?, h]
theorem lt_of_heap {w : World} {B : Nat} {o : Obj} (h : w.heap[B]? = some o) : B < w.heap.size := (Array.getElem?_eq_some_iff.1 h).1
theorem heap_alloc_lt {w : World} {o : Obj} {B : Nat} (h : B < w.heap.size) : (w.alloc o).heap[B]? = w.heap[B]? := by
  show (w.heap.push o)[B]? = _
  rw [Array.getElem?_push, if_neg (by omega)]
theorem heap_alloc_self {w : World} {o : Obj} : (w.alloc o).heap[w.heap.size]? = some o := by
  show (w.heap.push o)[w.heap.size]? = _
  simp

/-- A block more: nothing that stood for something stops to. -/
theorem calm_alloc (w : World) (o : Obj) : Calm w (w.alloc o) := .of_same fun _ h => heap_alloc_lt h
theorem fut_alloc (G : Gh) (hn : ∀ B, w.heap.size ≤ B → G.mark B = 0) (o : Obj) : Fut G w G (w.alloc o) :=
  Fut.mk' (calm_alloc w o) (fun _ _ h => h) (fun _ B v k cap h => ⟨B, v, k, cap, h, Nat.le_refl _, fun _ => ⟨rfl, rfl, rfl, rfl⟩⟩) (fun _ => Nat.le_refl _) (fun B j hj => by
    rcases Nat.lt_or_ge B w.heap.size with h | h
    · exact World.cell?_alloc_lt w o ⟨B, j, none⟩ h
    · rw [hn B h] at hj; omega) (fun _ _ h => h)

theorem Rel.fut_alloc (h : Rel m0 w0 G E S F a w) (o : Obj) : Fut G w G (w.alloc o) := Sh.fut_alloc G h.new o

/-- A block of the machine's more, of which the shadow says nothing. -/
theorem Rel.alloc (h : Rel m0 w0 G E S F a w) (o : Obj) : Rel m0 w0 G E S F a (w.alloc o) := by
  have f := h.fut_alloc o
  refine ⟨fun k s hk => (h.env k s hk).fut f, h.size, h.few, fun b cs hb ho => ?_, h.inj, fun i k sz hi => ?_, h.tinj, fun i B v k c hi => by have := h.tlt i B v k c hi; simp; omega, h.tbox, h.fresh, fun B hB => h.new B (by simp at hB; omega), h.low, h.below.alloc h.below.size o, h.defers, fun g x hg => (h.glob g x hg).fut f, h.more.keep f (calm_alloc w o) (fun _ _ _ h _ => h) rfl (fun _ _ _ => rfl) rfl (fun _ h => h) rfl⟩
  · obtain ⟨B, us, T, h1, h2, h3, h4, h5, hu0, h6⟩ := h.box b cs hb ho
    exact ⟨B, us, T, h1, (heap_alloc_lt (lt_of_heap h2)).trans h2, h3, h4, h5, hu0, fun j hj hj' => ⟨(h6 j hj hj').1, (h6 j hj hj').2.fut f⟩⟩
  · obtain ⟨B, v, us, T, cap, fr, h1, h2, r⟩ := h.tip i k sz hi
    exact ⟨B, v, us, T, cap, fr, h1, (heap_alloc_lt (lt_of_heap h2)).trans h2, r⟩

/-- The state with a variable more. -/
def St.new (S : St) (id : Nat) (cs : List SV) : St := { S with B := upd S.B id cs }

theorem Rel.new_box (h : Rel m0 w0 G E S F a w) {id : Nat} (hid : F id) (cs : List SV) (us : Array Value) (T : TypeId) (hl : cs.length ≤ us.size)
    (hv : ∀ j (h : j < cs.length) (h' : j < us.size), (cs[j]).cell = true ∧ VR G w cs[j] us[j]) :
    ∃ G', Rel m0 w0 G' E (S.new id cs) (fun b => F b ∧ b ≠ id) a (w.alloc (.cells us T)) ∧ Fut G w G' (w.alloc (.cells us T)) ∧ G'.box id = some w.heap.size := by
  obtain ⟨hf1, hf2⟩ := h.fresh id hid
  have hfo := h.more.ofresh id hid
  have f : Fut G w { G with box := upd G.box id w.heap.size } (w.alloc (.cells us T)) := by
    refine Fut.mk' (calm_alloc w _) (fun b B hb => ?_) (fun _ B v k cap h => ⟨B, v, k, cap, h, Nat.le_refl _, fun _ => ⟨rfl, rfl, rfl, rfl⟩⟩) (fun _ => Nat.le_refl _) (h.fut_alloc _).cell (fun _ _ h => h)
    by_cases e : b = id
    · subst e; rw [hf1] at hb; cases hb
    · exact (upd_ne _ _ e).trans hb
  have k := h.alloc (.cells us T)
  refine ⟨{ G with box := upd G.box id w.heap.size }, ⟨fun k s hk => (h.env k s hk).fut f, h.size, h.few, fun b cs' hb ho => ?_, fun b b' B hb hb' e1 e2 => ?_, fun i k sz hi => ?_, h.tinj, k.tlt, fun i b B v k c hi hb e => ?_, fun b hb => ?_, k.new, h.low, k.below, h.defers, fun g x hg => (h.glob g x hg).fut f, h.more.keep f (calm_alloc w _) (fun b cs' B hb ho => by
    have e : b ≠ id := fun e => by rw [e, hfo] at ho; cases ho
    simpa only [St.new, upd_ne S.B cs e] using hb) rfl (fun b B ho => by
    have e : b ≠ id := fun e => by rw [e, hfo] at ho; cases ho
    exact upd_ne _ _ e) rfl (fun _ h => h.1) rfl⟩, f, upd_same _ _ _⟩
  · by_cases e : b = id
    · subst e
      have : cs' = cs := by have := hb; simp only [St.new, upd_same, Option.some.injEq] at this; exact this.symm
      subst this
      exact ⟨w.heap.size, us, (T, (0, 0)), upd_same _ _ _, heap_alloc_self, hl, h.new _ (Nat.le_refl _), h.below.size, rfl, fun j hj hj' => ⟨(hv j hj hj').1, (hv j hj hj').2.fut f⟩⟩
    · have hb' : S.B b = some cs' := by simpa only [St.new, upd_ne S.B cs e] using hb
      obtain ⟨B, us', T', h1, h2, h3, h4, h5, hu0, h6⟩ := h.box b cs' hb' ho
      exact ⟨B, us', T', (upd_ne _ _ e).trans h1, (heap_alloc_lt (lt_of_heap h2)).trans h2, h3, h4, h5, hu0, fun j hj hj' => ⟨(h6 j hj hj').1, (h6 j hj hj').2.fut f⟩⟩
  · have old : ∀ b, b ≠ id → (S.new id cs).B b ≠ none → S.B b ≠ none := fun b e hb => by simpa only [St.new, upd_ne S.B cs e] using hb
    have lt : ∀ b B, S.B b ≠ none → G.box b = some B → B < w.heap.size := fun b B hb hg => by
      obtain ⟨cs', hcs'⟩ := Option.ne_none_iff_exists'.1 hb
      obtain ⟨B', us', T', h1, h2, _⟩ := h.box b cs' hcs' (h.boxOf hcs' hg)
      rw [h1] at hg; cases hg
      exact lt_of_heap h2
    by_cases e : b = id
    · by_cases e' : b' = id
      · rw [e, e']
      · exfalso
        subst e
        have := lt b' B (old b' e' hb') ((upd_ne _ _ e').symm.trans e2)
        have e3 : some w.heap.size = some B := (upd_same G.box b w.heap.size).symm.trans e1
        cases e3; omega
    · by_cases e' : b' = id
      · exfalso
        subst e'
        have := lt b B (old b e hb) ((upd_ne _ _ e).symm.trans e1)
        have e3 : some w.heap.size = some B := (upd_same G.box b' w.heap.size).symm.trans e2
        cases e3; omega
      · exact h.inj b b' B (old b e hb) (old b' e' hb') ((upd_ne _ _ e).symm.trans e1) ((upd_ne _ _ e').symm.trans e2)
  · obtain ⟨B, v, us', T', cap, fr, h1, h2, r⟩ := h.tip i k sz hi
    exact ⟨B, v, us', T', cap, fr, h1, (heap_alloc_lt (lt_of_heap h2)).trans h2, r⟩
  · by_cases eb : b = id
    · subst eb
      have e3 : some w.heap.size = some B := (upd_same G.box b w.heap.size).symm.trans e
      have := h.tlt i B v k c hi
      cases e3; omega
    · exact h.tbox i b B v k c hi (by simpa only [St.new, upd_ne S.B cs eb] using hb) ((upd_ne _ _ eb).symm.trans e)
  · obtain ⟨g1, g2⟩ := h.fresh b hb.1
    exact ⟨(upd_ne _ _ hb.2).trans g1, g2⟩
end

/-! ### sizes and zero values -/
def szOf (P : Program) (t : TypeId) : Option Nat := (P.info? t).map (·.size)
def zeroOf (P : Program) (t : TypeId) : Option Value := (P.info? t).bind (·.zero)

def SV.cells : SV → List SV
  | .ag cs => cs
  | .d (.agg cs) => cs.map .d
  | s => [s]

/-- It is no tuple. -/
def SV.one : SV → Bool
  | .ag _ => true
  | .d (.agg _) => true
  | s => s.cell

theorem VR.cells {G : Gh} {w : World} {s : SV} {u : Value} (h : VR G w s u) (hs : s.one = true) :
    u.cells.size = s.cells.length ∧ ∀ j (h : j < s.cells.length) (h' : j < u.cells.size), (s.cells[j]).cell = true ∧ VR G w s.cells[j] u.cells[j] := by
  have single : ∀ (x : SV) (y : Value), x.cells = [x] → y.cells = #[y] → x.cell = true → VR G w x y → y.cells.size = x.cells.length ∧ ∀ j (h : j < x.cells.length) (h' : j < y.cells.size), (x.cells[j]).cell = true ∧ VR G w x.cells[j] y.cells[j] := by
    intro x y h1 h2 h3 h4
    refine ⟨by rw [h1, h2]; rfl, fun j hj hj' => ?_⟩
    have : j = 0 := by rw [h1] at hj; simpa using hj
    subst this
    simp only [h1, h2]
    exact ⟨h3, h4⟩
  cases h with
  | ag hl hk hv => exact ⟨by simpa [Value.cells, SV.cells] using hl, fun j hj hj' => ⟨hk j hj, hv j hj (by simpa [Value.cells] using hj')⟩⟩
  | tu hl hv => simp [SV.one, SV.cell] at hs
  | d h =>
    cases h with
    | agg hl hk hv =>
      rename_i cs us
      refine ⟨by simpa [Value.cells, SV.cells] using hl, fun j hj hj' => ?_⟩
      have hj1 : j < cs.length := by simpa [SV.cells] using hj
      simp only [SV.cells, List.getElem_map]
      exact ⟨hk j hj1, .d (hv j hj1 (by simpa [Value.cells] using hj'))⟩
    | tup hl hv => simp [SV.one, SV.cell, D.cell] at hs
    | v h =>
      refine single _ _ rfl ?_ ?_ (.d (.v h))
      · cases u <;> simp_all [Value.cells, plain]
      · exact hs
    | nil => exact single _ _ rfl rfl rfl (.d .nil)
    | pz h => exact single _ _ rfl rfl rfl (.d (.pz h))
    | ps us hn hc hk hv => exact single _ _ rfl rfl rfl (.d (.ps us hn hc hk hv))
    | pp us hc hk hv => exact single _ _ rfl rfl rfl (.d (.pp us hc hk hv))
    | ifc h => exact single _ _ rfl rfl rfl (.d (.ifc h))
    | fn hl hm hv hu => exact single _ _ rfl rfl rfl (.d (.fn hl hm hv hu))
    | mp es hm hb h1 h2 hborn hk hv => exact single _ _ rfl rfl rfl (.d (.mp es hm hb h1 h2 hborn hk hv))
  | fl h hc =>
    obtain ⟨A, c, rfl, _⟩ := h.slice_inv
    exact single _ _ rfl rfl rfl (.fl h hc)
  | tp h ht hn he => exact single _ _ rfl rfl rfl (.tp h ht hn he)
  | op h => exact single _ _ rfl rfl rfl (.op h)
  | os h hn => exact single _ _ rfl rfl rfl (.os h hn)
  | fc h => exact single _ _ rfl rfl rfl (.fc h)
  | fn hl hm hv hu => exact single _ _ rfl rfl rfl (.fn hl hm hv hu)
  | mv h => exact single _ _ rfl rfl rfl (.mv h)
  | iv h => exact single _ _ rfl rfl rfl (.iv h)
  | sk h hn hb hr => exact single _ _ rfl rfl rfl (.sk h hn hb hr)

def constCells : List Value → Option (List SV)
  | [] => some []
  | c :: r => match ofConst c, constCells r with
    | some s, some ss => some (s :: ss)
    | _, _ => none

theorem ofConst_cell {c : Value} {s : SV} (h : ofConst c = some s) (hc : c.oneCell' = true) : s.cell = true := by
  unfold ofConst at h
  split at h
  · simp only [Option.some.injEq] at h; subst h; rfl
  · split at h
    · simp only [Option.some.injEq] at h; subst h
      cases c <;> simp_all [SV.cell, D.cell, Value.oneCell']
    · cases h

theorem constCells_ok {G : Gh} {w : World} : ∀ {us : List Value} {cs : List SV}, constCells us = some cs → us.all Value.oneCell' = true → cs.length = us.length ∧ ∀ j (h : j < cs.length) (h' : j < us.length), (cs[j]).cell = true ∧ VR G w cs[j] us[j]
  | [], cs, h, _ => by
    simp only [constCells, Option.some.injEq] at h
    subst h
    exact ⟨rfl, fun j hj => by simp at hj⟩
  | c :: r, cs, h, ha => by
    simp only [constCells] at h
    split at h
    · rename_i s ss h1 h2
      simp only [Option.some.injEq] at h
      subst h
      simp only [List.all_cons, Bool.and_eq_true] at ha
      obtain ⟨hl, hv⟩ := constCells_ok (G := G) (w := w) h2 ha.2
      refine ⟨by simp [hl], fun j hj hj' => ?_⟩
      cases j with
      | zero => exact ⟨ofConst_cell h1 ha.1, ofConst_ok h1⟩
      | succ j => exact hv j (by simpa using hj) (by simpa using hj')
    · cases h

/-- The cells of a type's zero value. -/
def zeroCellsOf (P : Program) (t : TypeId) : Option (List SV) :=
  match zeroOf P t with
  | some z => if z.cells.toList.all Value.oneCell' then constCells z.cells.toList else none
  | none => none

end Go.Sh
