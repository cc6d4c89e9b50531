/- THE SHADOW, 3: the operations on memory: a new variable, a load, a store, places. Over any program. -/
import Derived.Test.YtghbkljdpikpdaaShB
import Derived.Laws.CopyRow
set_option linter.unusedVariables false
set_option linter.unusedSimpArgs false
namespace Go.Sh
open Go.RowKit (Below)

inductive Eff where
  | no
  | new (cs : List SV)
  | set (b : Nat) (cs : List SV)
  /-- row i ends behind place k -/
  | tip (i k sz : Nat)
  /-- variable b is no more, and a new one has these cells -/
  | mov (b : Nat) (cs : List SV)

def St.set (S : St) (b : Nat) (cs : List SV) : St := { S with B := upd S.B b cs }
/-- The state with a tip's length. -/
def St.tipTo (S : St) (i k sz : Nat) : St := { S with T := upd S.T i (k, sz) }
def St.mov (S : St) (b id : Nat) (cs : List SV) : St := { S with B := upd (fun x => if x = b then none else S.B x) id cs }
def St.app (S : St) (id : Nat) : Eff → St
  | .no => S
  | .new cs => S.new id cs
  | .set b cs => S.set b cs
  | .tip i k sz => S.tipTo i k sz
  | .mov b cs => S.mov b id cs

theorem VR.op_inv {G : Gh} {w : World} {b off : Nat} {u : Value} (h : VR G w (.op b off) u) : ∃ B, G.box b = some B ∧ u = .pointer (some ⟨B, off, none⟩) := by
  cases h with
  | op h => exact ⟨_, h, rfl⟩

/-- What an operation must do: its result stands for s, the world for the state behind it. -/
def Does (P : Program) (m0 : Nat → Nat) (w0 : World) (G : Gh) (E : Env) (S : St) (F : Nat → Prop) (a : Act) (w : World) (o : Oper) (s : SV) (S' : St) (F' : Nat → Prop) : Prop :=
  ∃ n u w' G', (execOp a.eval o).run P w = .ok n w' ∧ (n = .value u ∨ n = .skip ∧ u = undef) ∧ VR G' w' s u ∧ Rel m0 w0 G' E S' F' a w' ∧ Fut G w G' w'

section
variable {P : Program} {m0 : Nat → Nat} {w0 : World} {G : Gh} {E : Env} {S : St} {F : Nat → Prop} {a : Act} {w : World} {o : Oper}

theorem Rel.less {F' : Nat → Prop} (h : Rel m0 w0 G E S F a w) (hF : ∀ b, F' b → F b) : Rel m0 w0 G E S F' a w :=
  ⟨h.env, h.size, h.few, h.box, h.inj, h.tip, h.tinj, h.tlt, h.tbox, fun b hb => h.fresh b (hF b hb), h.new, h.low, h.below, h.defers, h.glob, h.more.keep (Fut.refl _ _) (.refl _) (fun _ _ _ h _ => h) rfl (fun _ _ _ => rfl) rfl hF rfl⟩

/-- An operation that leaves the world as it is. -/
theorem Does.quiet (h : Rel m0 w0 G E S F a w) {s : SV} {u : Value} (hr : (execOp a.eval o).run P w = .ok (.value u) w) (hu : VR G w s u) : Does P m0 w0 G E S F a w o s S F :=
  ⟨_, u, w, G, hr, .inl rfl, hu, h, Fut.refl _ _⟩

theorem Does.less {s : SV} {S' : St} {F' F'' : Nat → Prop} (h : Does P m0 w0 G E S F a w o s S' F') (hF : ∀ b, F'' b → F' b) : Does P m0 w0 G E S F a w o s S' F'' := by
  obtain ⟨n, u, w', G', h1, h2, h3, h4, h5⟩ := h
  exact ⟨n, u, w', G', h1, h2, h3, h4.less hF, h5⟩

theorem does_move {x : Operand} (ho : o.op = .move x ∨ o.op = .assign x) (h : Rel m0 w0 G E S F a w) {s : SV} (he : evalO E x = some s) : Does P m0 w0 G E S F a w o s S F :=
  .quiet h (u := a.eval x) (by rcases ho with ho | ho <;> (simp only [execOp, ho]; rfl)) (evalO_ok h he)

theorem does_pick {c x y : Operand} {b : Bool} (ho : o.op = .pick c x y) (h : Rel m0 w0 G E S F a w) (hc : evalO E c = some (.d (.v (.bool b)))) {s : SV} (he : evalO E (if b then x else y) = some s) :
    Does P m0 w0 G E S F a w o s S F := by
  have hb : a.eval c = .bool b := by
    have := evalO_ok h hc
    generalize a.eval c = X at this
    cases this with
    | d h => cases h; rfl
  refine .quiet h (u := a.eval (if b then x else y)) ?_ (evalO_ok h he)
  simp only [execOp, ho, hb, asBool]
  cases b <;> rfl

theorem run_newRow (T : TypeId) (us : Array Value) : (newRow T us).run P w = .ok ⟨w.heap.size, 0, none⟩ (w.alloc (.cells us T)) := by simp [newRow]

theorem run_zero {t : TypeId} {z : Value} (hz : zeroOf P t = some z) : (zeroValue t).run P w = .ok z w := by
  unfold zeroOf at hz
  cases hi : P.info? t with
  | none => simp [hi] at hz
  | some i =>
    simp only [hi, Option.bind_some] at hz
    simp [zeroValue, typeInfo, hi, hz]

theorem run_size {t : TypeId} {n : Nat} (hz : szOf P t = some n) : (sizeOf t).run P w = .ok n w := by
  unfold szOf at hz
  cases hi : P.info? t with
  | none => simp [hi] at hz
  | some i =>
    simp only [hi, Option.map_some, Option.some.injEq] at hz
    simp [sizeOf, typeInfo, hi, hz]

theorem run_under {t : TypeId} {d : TypeDesc} (hd : P.underlying t = some d) : (underlying t).run P w = .ok d w := by simp [underlying, hd]

theorem zeroCells_ok {t : TypeId} {cs : List SV} (h : zeroCellsOf P t = some cs) : ∃ z, zeroOf P t = some z ∧ z.cells.size = cs.length ∧ ∀ (G : Gh) (w : World) j (h : j < cs.length) (h' : j < z.cells.size), (cs[j]).cell = true ∧ VR G w cs[j] z.cells[j] := by
  unfold zeroCellsOf at h
  split at h
  · rename_i z hz
    split at h
    · rename_i ha
      obtain ⟨hl, _⟩ := constCells_ok (G := ⟨fun _ => none, fun _ => none, fun _ => 0, fun _ => none⟩) (w := default) h ha
      refine ⟨z, hz, by simpa using hl.symm, fun G w j hj hj' => ?_⟩
      have := (constCells_ok (G := G) (w := w) h ha).2 j hj (by simpa using hj')
      simpa using this
    · cases h
  · cases h

/-- A new variable. -/
theorem does_new {T : TypeId} {us : Array Value} {cs : List SV} {id : Nat} (h : Rel m0 w0 G E S F a w) (hid : F id)
    (hr : (execOp a.eval o).run P w = .ok (.value (.pointer (some ⟨w.heap.size, 0, none⟩))) (w.alloc (.cells us T)))
    (hl : cs.length ≤ us.size) (hv : ∀ j (h : j < cs.length) (h' : j < us.size), (cs[j]).cell = true ∧ VR G w cs[j] us[j]) :
    Does P m0 w0 G E S F a w o (.op id 0) (S.new id cs) (fun b => F b ∧ b ≠ id) := by
  obtain ⟨G', h1, h2, h3⟩ := h.new_box hid cs us T hl hv
  exact ⟨_, _, _, G', hr, .inl rfl, .op h3, h1, h2⟩

theorem does_alloc {T : TypeId} {cs : List SV} {id : Nat} (ho : o.op = .alloc T) (h : Rel m0 w0 G E S F a w) (hid : F id) (hz : zeroCellsOf P T = some cs) :
    Does P m0 w0 G E S F a w o (.op id 0) (S.new id cs) (fun b => F b ∧ b ≠ id) := by
  obtain ⟨z, h1, h2, h3⟩ := zeroCells_ok hz
  refine does_new (T := T) (us := z.cells) h hid ?_ (Nat.le_of_eq h2.symm) (h3 G w)
  simp only [execOp, ho, Instr.alloc]
  simp [run_zero h1, newVar, run_newRow]

theorem does_box {T : TypeId} {x : Operand} {s : SV} {id : Nat} (ho : o.op = .box T x) (h : Rel m0 w0 G E S F a w) (hid : F id) (he : evalO E x = some s) (hs : s.one = true) :
    Does P m0 w0 G E S F a w o (.op id 0) (S.new id s.cells) (fun b => F b ∧ b ≠ id) := by
  obtain ⟨h2, h3⟩ := (evalO_ok h he).cells hs
  refine does_new (T := T) (us := (a.eval x).cells) h hid ?_ (Nat.le_of_eq h2.symm) h3
  simp only [execOp, ho, Instr.box]
  simp [newVar, run_newRow]

theorem add_off (B x j : Nat) : (⟨B, x, none⟩ : Addr).add j = ⟨B, x + j, none⟩ := by
  unfold Addr.add
  split
  · rename_i e; subst e; rfl
  · rfl

/-! ### loads -/
/-- What lies at a place of a row, of a type; mk makes one of several cells. -/
def loadG {α : Type} (mk : List α → α) (P : Program) (T : TypeId) (cs : List α) (off : Nat) : Option α :=
  match P.underlying T with
  | some (.struct _) | some (.array _ _) => match szOf P T with
    | some n => if off + n ≤ cs.length then some (mk ((cs.drop off).take n)) else none
    | none => none
  | some _ => cs[off]?
  | none => none

theorem run_isAgg {T : TypeId} {d : TypeDesc} (hd : P.underlying T = some d) : (isAgg T).run P w = .ok (match d with | .struct _ | .array _ _ => true | _ => false) w := by
  unfold isAgg
  rw [Sem.run_bind, run_under hd]
  cases d <;> rfl

/-- The two ways: of several cells, of one. -/
theorem loadG_cases {α : Type} {mk : List α → α} {T : TypeId} {cs : List α} {off : Nat} {s : α} (h : loadG mk P T cs off = some s) :
    (∃ n, (∀ w, (isAgg T).run P w = .ok true w) ∧ szOf P T = some n ∧ off + n ≤ cs.length ∧ s = mk ((cs.drop off).take n)) ∨ ((∀ w, (isAgg T).run P w = .ok false w) ∧ cs[off]? = some s) := by
  unfold loadG at h
  split at h
  · rename_i f hd
    split at h
    · rename_i n hn
      split at h
      · simp only [Option.some.injEq] at h
        exact .inl ⟨n, fun w => run_isAgg hd, hn, by assumption, h.symm⟩
      · cases h
    · cases h
  · rename_i l e hd
    split at h
    · rename_i n hn
      split at h
      · simp only [Option.some.injEq] at h
        exact .inl ⟨n, fun w => run_isAgg hd, hn, by assumption, h.symm⟩
      · cases h
    · cases h
  · rename_i d h1 h2 hd
    refine .inr ⟨fun w => ?_, h⟩
    rw [run_isAgg hd]
    cases d <;> first | rfl | exact absurd rfl (h1 _) | exact absurd rfl (h2 _ _)
  · cases h

theorem loadG_ok {α : Type} {mk : List α → α} {C : α → Prop} {R : α → Value → Prop}
    (hmk : ∀ (cs : List α) (us : List Value), us.length = cs.length → (∀ j (h : j < cs.length), C cs[j]) → (∀ j (h : j < cs.length) (h' : j < us.length), R cs[j] us[j]) → R (mk cs) (.agg us.toArray))
    {T : TypeId} {cs : List α} {off : Nat} {s : α} {B o' : Nat} {us : Nat → Value} (h : loadG mk P T cs off = some s)
    (hc : ∀ j, j < cs.length → w.cell? ⟨B, o' + j, none⟩ = some (us j)) (hk : ∀ j (h : j < cs.length), C cs[j]) (hv : ∀ j (h : j < cs.length), R cs[j] (us j)) :
    ∃ u, (loadVar T ⟨B, o' + off, none⟩).run P w = .ok u w ∧ R s u := by
  rcases loadG_cases h with ⟨n, hagg, hn, hle, rfl⟩ | ⟨hagg, hs⟩
  · have hl : (((List.range n).map fun j => us (off + j))).length = ((cs.drop off).take n).length := by simp; omega
    refine ⟨.agg (((List.range n).map fun j => us (off + j)).toArray), ?_, hmk _ _ hl (fun j hj => ?_) (fun j hj hj' => ?_)⟩
    · have hrun : (loadCells ⟨B, o' + off, none⟩ n).run P w = .ok (((List.range n).map fun j => us (off + j)).toArray) w := by
        refine run_loadCells w _ n (fun j => us (off + j)) (fun j hj => ?_)
        have := hc (off + j) (by omega)
        rw [add_off, Nat.add_assoc]; exact this
      simp [loadVar, hagg w, run_size hn, hrun]
    · have : ((cs.drop off).take n)[j] = cs[off + j]'(by simp at hj; omega) := by simp
      rw [this]; exact hk _ _
    · have e1 : ((cs.drop off).take n)[j] = cs[off + j]'(by simp at hj; omega) := by simp
      have e2 : ((List.range n).map fun j => us (off + j))[j] = us (off + j) := by simp
      rw [e1, e2]; exact hv _ _
  · obtain ⟨hlt, he⟩ := List.getElem?_eq_some_iff.1 hs
    refine ⟨us off, ?_, by rw [← he]; exact hv off hlt⟩
    simp [loadVar, hagg w, hc off hlt]

/-- A part of a value of several cells. -/
theorem partG_ok {α : Type} {mk : List α → α} {C : α → Prop} {R : α → Value → Prop}
    (hmk : ∀ (cs : List α) (us : List Value), us.length = cs.length → (∀ j (h : j < cs.length), C cs[j]) → (∀ j (h : j < cs.length) (h' : j < us.length), R cs[j] us[j]) → R (mk cs) (.agg us.toArray))
    {T : TypeId} {cs : List α} {us : Array Value} {off : Nat} {s : α} (h : loadG mk P T cs off = some s) (hl : us.size = cs.length) (hk : ∀ j (h : j < cs.length), C cs[j])
    (hv : ∀ j (h : j < cs.length) (h' : j < us.size), R cs[j] us[j]) : ∃ u, (part T us off).run P w = .ok u w ∧ R s u := by
  rcases loadG_cases h with ⟨n, hagg, hn, hle, rfl⟩ | ⟨hagg, hs⟩
  · have hl2 : (us.extract off (off + n)).toList.length = ((cs.drop off).take n).length := by simp; omega
    refine ⟨.agg (us.extract off (off + n)), by simp [part, hagg w, run_size hn], ?_⟩
    have := hmk ((cs.drop off).take n) (us.extract off (off + n)).toList hl2 (fun j hj => by
      have e : ((cs.drop off).take n)[j] = cs[off + j]'(by simp at hj; omega) := by simp
      rw [e]; exact hk _ _) (fun j hj hj' => by
      have e1 : ((cs.drop off).take n)[j] = cs[off + j]'(by simp at hj; omega) := by simp
      have e2 : (us.extract off (off + n)).toList[j] = us[off + j]'(by simp at hj; omega) := by simp
      rw [e1, e2]; exact hv _ _ _)
    simpa only [Array.toArray_toList] using this
  · obtain ⟨hlt, he⟩ := List.getElem?_eq_some_iff.1 hs
    refine ⟨us[off]'(by omega), ?_, by rw [← he]; exact hv off hlt (by omega)⟩
    have hg : us[off]? = some (us[off]'(by omega)) := Array.getElem?_eq_getElem (by omega)
    simp [part, hagg w, hg]

abbrev loadD := loadG D.agg
abbrev loadS := loadG SV.ag

theorem does_load_pp {T : TypeId} {x : Operand} {cs : List D} {off : Nat} {s : D} (ho : o.op = .load T x) (h : Rel m0 w0 G E S F a w) (he : evalO E x = some (.d (.pp cs off))) (hl : loadD P T cs off = some s) :
    Does P m0 w0 G E S F a w o (.d s) S F := by
  have hv := evalO_ok h he
  generalize hx : a.eval x = X at hv
  cases hv with
  | d hv =>
    cases hv with
    | pp us hc hk hv =>
      obtain ⟨u, h1, h2⟩ := loadG_ok (w := w) (C := fun x => D.cell x = true) (R := PV G.mark w) (fun _ _ a b c => .agg a b c) hl (fun j hj => (hc j hj).2) hk hv
      refine .quiet h (u := u) ?_ (.d h2)
      simp only [execOp, ho, hx, Instr.loadAt, Instr.sureAddr]
      simp [h1]

theorem does_load_op {T : TypeId} {x : Operand} {cs : List SV} {b off : Nat} {s : SV} (ho : o.op = .load T x) (h : Rel m0 w0 G E S F a w) (he : evalO E x = some (.op b off)) (hb : S.B b = some cs) (hl : loadS P T cs off = some s) :
    Does P m0 w0 G E S F a w o s S F := by
  obtain ⟨B', hg, hx⟩ := (evalO_ok h he).op_inv
  obtain ⟨B, us, T', h1, h2, h3, h4, h5, hu0, h6⟩ := h.box b cs hb (h.boxOf hb hg)
  obtain rfl : B = B' := Option.some.inj (h1.symm.trans hg)
  have hus : ∀ j, j < cs.length → w.cell? ⟨B, 0 + j, none⟩ = some (us.getD j undef) := fun j hj => by
    rw [Nat.zero_add, cell_of_heap h2, Array.getElem?_eq_getElem (by omega)]
    simp [Array.getD_eq_getD_getElem?, Array.getElem?_eq_getElem (show j < us.size by omega)]
  obtain ⟨u, g1, g2⟩ := loadG_ok (w := w) (C := fun x => SV.cell x = true) (R := VR G w) (fun _ _ a b c => .ag a b c) (us := fun j => us.getD j undef) hl hus (fun j hj => (h6 j hj (by omega)).1) (fun j hj => by
    have := (h6 j hj (by omega)).2
    simpa [Array.getD_eq_getD_getElem?, Array.getElem?_eq_getElem (show j < us.size by omega)] using this)
  rw [Nat.zero_add] at g1
  refine .quiet h (u := u) ?_ g2
  simp only [execOp, ho, hx, Instr.loadAt, Instr.sureAddr]
  simp [g1]

/-! ### a store into a variable of the shadow -/
theorem heap_setRow_same {w : World} {g : Nat} {cur new : Array Value} {t : TypeId} {fr : Nat × Nat} (h : w.heap[g]? = some (.cells cur t fr)) : (w.setRow g new).heap[g]? = some (.cells new t fr) := setRow_heap w g cur new t _ h

/-- 'storeCells' into a row of which none of the cells is frozen. -/
theorem run_storeCells_fr (g o : Nat) (t : TypeId) (fr : Nat × Nat) : ∀ (vs : List Value) (i : Nat) (cur : Array Value) (w : World), w.heap[g]? = some (.cells cur t fr) → unf fr cur.size → o + i + vs.length ≤ cur.size → (∀ v ∈ vs, v.oneCell' = true) →
    (storeCells ⟨g, o, none⟩ vs i).run P w = .ok () (w.setRow g (cur.toList.take (o + i) ++ vs ++ cur.toList.drop (o + i + vs.length)).toArray)
  | [], i, cur, w, hg, _, _, _ => by
    simp only [storeCells, List.append_nil, List.length_nil, Nat.add_zero, List.take_append_drop, Array.toArray_toList]
    rw [setRow_self w g cur t fr hg]
    rfl
  | v :: rest, i, cur, w, hg, hf, hl, h1 => by
    have hi : o + i < cur.size := by simp at hl; omega
    have hcell : w.cell? ⟨g, o + i, none⟩ = some cur[o + i] := by simp [World.cell?, hg, hi]
    have hfro : w.frozen? ⟨g, o + i, none⟩ = false := by
      obtain ⟨f1, f2⟩ := fr
      simp only [unf, Prod.mk.injEq] at hf
      simp [World.frozen?, hg]
      omega
    have hst : (store ((⟨g, o, none⟩ : Addr).add i) v).run P w = .ok () (w.setRow g (cur.setIfInBounds (o + i) v)) := by
      rw [add_off, run_store P w _ v _ (h1 v (by simp)), hcell]
      simp [hfro, setCell_eq_setRow w g (o + i) cur t fr v hg]
    have ih := run_storeCells_fr g o t fr rest (i + 1) (cur.setIfInBounds (o + i) v) (w.setRow g (cur.setIfInBounds (o + i) v)) (setRow_heap w g cur _ t _ hg) (by simpa using hf) (by simp at hl ⊢; omega) (fun x hx => h1 x (by simp [hx]))
    simp only [storeCells, Sem.run_bind, hst, Result.andThen_ok, ih, setRow_setRow]
    congr 3
    have e := list_seg_step cur.toList (o + i) v rest (by simp at hl ⊢; omega)
    simpa [Array.toList_setIfInBounds, Nat.add_assoc] using e

theorem three_get {α : Type} {l m : List α} {off n : Nat} (hm : m.length = n) (hle : off + n ≤ l.length) (j : Nat) :
    (l.take off ++ m ++ l.drop (off + n))[j]? = if j < off then l[j]? else if j < off + n then m[j - off]? else l[j]? := by
  have e0 : (l.take off).length = off := by simp; omega
  rcases Nat.lt_or_ge j off with h | h
  · rw [if_pos h, List.append_assoc, List.getElem?_append_left (by omega), List.getElem?_take, if_pos h]
  · rw [if_neg (by omega)]
    rcases Nat.lt_or_ge j (off + n) with h2 | h2
    · rw [if_pos h2, List.append_assoc, List.getElem?_append_right (by omega), List.getElem?_append_left (by omega), e0]
    · rw [if_neg (by omega), List.getElem?_append_right (by simp; omega), List.getElem?_drop]
      congr 1; simp; omega

theorem three_rel {α β : Type} {R : α → β → Prop} {cs ms : List α} {us ns : List β} {off n : Nat} (hl : cs.length ≤ us.length) (hm : ms.length = n) (hn : ns.length = n) (hle : off + n ≤ cs.length)
    (h1 : ∀ j (h : j < cs.length) (h' : j < us.length), R cs[j] us[j]) (h2 : ∀ j (h : j < ms.length) (h' : j < ns.length), R ms[j] ns[j]) :
    ∀ j (h : j < (cs.take off ++ ms ++ cs.drop (off + n)).length) (h' : j < (us.take off ++ ns ++ us.drop (off + n)).length), R (cs.take off ++ ms ++ cs.drop (off + n))[j] (us.take off ++ ns ++ us.drop (off + n))[j] := by
  intro j hj hj'
  have e1 := three_get (l := cs) (m := ms) (off := off) (n := n) hm hle j
  have e2 := three_get (l := us) (m := ns) (off := off) (n := n) hn (by omega) j
  rw [List.getElem?_eq_getElem hj] at e1
  rw [List.getElem?_eq_getElem hj'] at e2
  have key : ∀ x y, some x = (if j < off then cs[j]? else if j < off + n then ms[j - off]? else cs[j]?) → some y = (if j < off then us[j]? else if j < off + n then ns[j - off]? else us[j]?) → R x y := by
    intro x y hx hy
    have both : ∀ (l : List α) (k : List β) (i : Nat), (∀ j (h : j < l.length) (h' : j < k.length), R l[j] k[j]) → some x = l[i]? → some y = k[i]? → R x y := by
      intro l k i hr h3 h4
      obtain ⟨a1, rfl⟩ := List.getElem?_eq_some_iff.1 h3.symm
      obtain ⟨a2, rfl⟩ := List.getElem?_eq_some_iff.1 h4.symm
      exact hr i a1 a2
    split at hx
    · rename_i h; rw [if_pos h] at hy; exact both _ _ _ h1 hx hy
    · rename_i h; rw [if_neg h] at hy
      split at hx
      · rename_i h'; rw [if_pos h'] at hy; exact both _ _ _ h2 hx hy
      · rename_i h'; rw [if_neg h'] at hy; exact both _ _ _ h1 hx hy
  exact key _ _ e1 e2

theorem calm_row {w W : World} {B : Nat} {us us' : Array Value} {T : TypeId} {fr : Nat × Nat} (h2 : w.heap[B]? = some (.cells us T fr)) (hnew : W.heap[B]? = some (.cells us' T fr)) (hsz : us'.size = us.size) (hother : ∀ i, i ≠ B → W.heap[i]? = w.heap[i]?) : Calm w W := by
  refine ⟨fun X us1 T1 fr1 hX => ?_, fun X o hX ho => ?_⟩
  · by_cases e : X = B
    · subst e
      rw [h2] at hX; cases hX
      exact ⟨us', hnew, hsz⟩
    · exact ⟨us1, (hother X e).trans hX, rfl⟩
  · by_cases e : X = B
    · subst e
      rw [h2] at hX; cases hX
      exact absurd rfl (ho _ _ _)
    · exact (hother X e).trans hX

theorem does_store {T : TypeId} {x y : Operand} {cs : List SV} {b off n : Nat} {s : SV} (ho : o.op = .store T x y) (h : Rel m0 w0 G E S F a w) (he : evalO E x = some (.op b off)) (hb : S.B b = some cs)
    (hy : evalO E y = some s) (hs : s.one = true) (hn : szOf P T = some n) (hsn : s.cells.length = n) (hle : off + n ≤ cs.length) :
    Does P m0 w0 G E S F a w o (.d (.v undef)) (S.set b (cs.take off ++ s.cells ++ cs.drop (off + n))) F := by
  obtain ⟨B', hg, hx⟩ := (evalO_ok h he).op_inv
  have hy' := evalO_ok h hy
  generalize hz : a.eval y = Y at hy'
  obtain ⟨B, us, T', h1, h2, h3, h4, h5, hu0, h6⟩ := h.box b cs hb (h.boxOf hb hg)
  obtain rfl : B = B' := Option.some.inj (h1.symm.trans hg)
  · obtain ⟨k1, k2⟩ := hy'.cells hs
    have h1cell : ∀ v ∈ Y.cells.toList, v.oneCell' = true := by
      intro v hv
      obtain ⟨j, hj, rfl⟩ := List.getElem_of_mem hv
      have hj' : j < Y.cells.size := by simpa using hj
      obtain ⟨g1, g2⟩ := k2 j (by omega) hj'
      simpa using g2.one g1
    have hlen : Y.cells.toList.length = n := by simp [k1, hsn]
    have hst := run_storeCells_fr (P := P) B off T'.1 T'.2 Y.cells.toList 0 us w h2 hu0 (by omega) h1cell
    rw [Nat.add_zero, hlen] at hst
    generalize hW : w.setRow B (us.toList.take off ++ Y.cells.toList ++ us.toList.drop (off + n)).toArray = W at hst
    have hrun : (execOp a.eval o).run P w = .ok .skip W := by
      simp only [execOp, ho, hx, hz, Instr.storeAt, Instr.sureAddr]
      have hsz : Y.cells.size = n := by simpa using hlen
      simp [storeVar, run_size hn, hsz, hst]
    have hother : ∀ i, i ≠ B → W.heap[i]? = w.heap[i]? := by
      intro i hi
      subst hW
      simp only [World.setRow, Array.getElem?_modify]
      rw [if_neg (fun e => hi e.symm)]
    have hsize : W.heap.size = w.heap.size := by subst hW; simp [World.setRow]
    have hnew : W.heap[B]? = some (.cells (us.toList.take off ++ Y.cells.toList ++ us.toList.drop (off + n)).toArray T'.1 T'.2) := by subst hW; exact heap_setRow_same h2
    have hcalm : Calm w W := calm_row h2 hnew (by simp [k1, hsn]; omega) hother
    have f : Fut G w G W := by
      refine Fut.mk' hcalm (fun _ _ h => h) (fun _ B v k cap h => ⟨B, v, k, cap, h, Nat.le_refl _, fun _ => ⟨rfl, rfl, rfl, rfl⟩⟩) (fun _ => Nat.le_refl _) (fun i j hj => ?_) (fun _ _ h => h)
      by_cases e : i = B
      · subst e; rw [h4] at hj; omega
      · simp only [World.cell?, hother i e]
    refine ⟨_, undef, W, G, hrun, .inr ⟨rfl, rfl⟩, .d (.v rfl), ⟨fun k s hk => (h.env k s hk).fut f, h.size, h.few, fun b' cs' hb' ho' => ?_, fun b1 b2 B' e1 e2 => h.inj b1 b2 B' ?_ ?_, fun i k sz hi => ?_, h.tinj, fun i B v k c hi => by have := h.tlt i B v k c hi; omega, fun i b' B v k c hi hb' => h.tbox i b' B v k c hi ?_, h.fresh, fun i hi => h.new i (by omega), h.low, ?_, h.defers, fun g x hg => (h.glob g x hg).fut f, h.more.keep f hcalm (fun b' cs' B' hb' ho' => by
      have e : b' ≠ b := fun e => by
        subst e
        rw [h.boxOf hb h1] at ho'; cases ho'
      simpa only [St.set, upd_ne S.B _ e] using hb') rfl (fun _ _ _ => rfl) rfl (fun _ h => h) rfl⟩, f⟩
    · by_cases e : b' = b
      · subst e
        have : cs' = cs.take off ++ s.cells ++ cs.drop (off + n) := by have := hb'; simp only [St.set, upd_same, Option.some.injEq] at this; exact this.symm
        subst this
        have esz : (us.toList.take off ++ Y.cells.toList ++ us.toList.drop (off + n)).toArray.size = us.size := by simp [k1, hsn]; omega
        refine ⟨B, _, T', h1, hnew, by simp [k1, hsn]; omega, h4, h5, by rw [esz]; exact hu0, fun j hj hj' => ?_⟩
        exact three_rel (R := fun s u => s.cell = true ∧ VR G W s u) (by simpa using h3) hsn hlen hle (fun j hj hj' => ⟨(h6 j hj (by simpa using hj')).1, (h6 j hj (by simpa using hj')).2.fut f⟩)
          (fun j hj hj' => ⟨(k2 j hj (by simpa using hj')).1, (k2 j hj (by simpa using hj')).2.fut f⟩) j hj (by simpa using hj')
      · have hb2 : S.B b' = some cs' := by simpa only [St.set, upd_ne S.B _ e] using hb'
        obtain ⟨B', us', T'', g1, g2, g3, g4, g5, gu0, g6⟩ := h.box b' cs' hb2 ho'
        have hne : B' ≠ B := fun eq => e (h.inj b' b B (by rw [hb2]; simp) (by rw [hb]; simp) (by rw [g1, eq]) h1)
        exact ⟨B', us', T'', g1, (hother B' hne).trans g2, g3, g4, g5, gu0, fun j hj hj' => ⟨(g6 j hj hj').1, (g6 j hj hj').2.fut f⟩⟩
    · by_cases e : b1 = b
      · subst e; rw [hb]; simp
      · simpa only [St.set, upd_ne S.B _ e] using e1
    · by_cases e : b2 = b
      · subst e; rw [hb]; simp
      · simpa only [St.set, upd_ne S.B _ e] using e2
    · obtain ⟨B', v', us', T'', cap, fr, g1, g2, g3, g4, g5, g6, g7, g8, g9⟩ := h.tip i k sz hi
      have hne : B' ≠ B := fun eq => by
        subst eq
        exact h.tbox i b B' v' k cap g1 (by rw [hb]; simp) h1
      exact ⟨B', v', us', T'', cap, fr, g1, (hother B' hne).trans g2, g3, g4, g5, g6, g7, g8, g9⟩
    · by_cases e : b' = b
      · subst e; rw [hb]; simp
      · simpa only [St.set, upd_ne S.B _ e] using hb'
    · refine h.below.trans ⟨?_, ?_, ?_, by omega, fun i hi => hother i (by omega)⟩ <;> (subst hW; rfl)
end
end Go.Sh
