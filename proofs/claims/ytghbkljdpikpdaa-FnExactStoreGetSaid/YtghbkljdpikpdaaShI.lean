/- THE SHADOW: values built of parts, rows of literals, parts of slices and texts, what an interface holds. Over any program. -/
import Derived.Test.YtghbkljdpikpdaaShE
set_option linter.unusedVariables false
set_option linter.unusedSimpArgs false
namespace Go.Sh
open Go.RowKit (Below)

section
variable {P : Program} {m0 : Nat → Nat} {w0 : World} {G : Gh} {E : Env} {S : St} {F : Nat → Prop} {a : Act} {w : World} {o : Oper}

def D.cells : D → List D
  | .agg cs => cs
  | x => [x]
def D.one : D → Bool
  | .agg _ => true
  | x => x.cell

theorem PV.cellsOf {m : Nat → Nat} {x : D} {u : Value} (h : PV m w x u) (hx : x.one = true) : u.cells.size = x.cells.length ∧ ∀ j (h : j < x.cells.length) (h' : j < u.cells.size), (x.cells[j]).cell = true ∧ PV m w x.cells[j] u.cells[j] := by
  have single : ∀ (x : D) (y : Value), x.cells = [x] → y.cells = #[y] → x.cell = true → PV m w x y → y.cells.size = x.cells.length ∧ ∀ j (h : j < x.cells.length) (h' : j < y.cells.size), (x.cells[j]).cell = true ∧ PV m w x.cells[j] y.cells[j] := by
    intro x y h1 h2 h3 h4
    refine ⟨by rw [h1, h2]; rfl, fun j hj hj' => ?_⟩
    have : j = 0 := by rw [h1] at hj; simpa using hj
    subst this
    simp only [h1, h2]
    exact ⟨h3, h4⟩
  cases h with
  | agg hl hk hv => exact ⟨by simpa [Value.cells, D.cells] using hl, fun j hj hj' => ⟨hk j hj, hv j hj (by simpa [Value.cells] using hj')⟩⟩
  | tup hl hv => simp [D.one, D.cell] at hx
  | v h =>
    refine single _ _ rfl ?_ hx (.v h)
    cases u <;> simp_all [Value.cells, plain]
  | nil => exact single _ _ rfl rfl rfl .nil
  | pz h => exact single _ _ rfl rfl rfl (.pz h)
  | ps us hn hc hk hv => exact single _ _ rfl rfl rfl (.ps us hn hc hk hv)
  | pp us hc hk hv => exact single _ _ rfl rfl rfl (.pp us hc hk hv)
  | ifc h => exact single _ _ rfl rfl rfl (.ifc h)
  | fn hl hm hv hu => exact single _ _ rfl rfl rfl (.fn hl hm hv hu)
  | mp es hm hb h1 h2 hborn hk hv => exact single _ _ rfl rfl rfl (.mp es hm hb h1 h2 hborn hk hv)

/-! ### filling -/
theorem foldl_set (off : Nat) : ∀ (l : List Value) (k : Nat) (cur : Array Value), off + k + l.length ≤ cur.size →
    ((l.zipIdx k).foldl (fun cs (c, j) => cs.setIfInBounds (off + j) c) cur).toList = cur.toList.take (off + k) ++ l ++ cur.toList.drop (off + k + l.length)
  | [], k, cur, h => by simp
  | v :: l, k, cur, h => by
    simp only [List.zipIdx_cons, List.foldl_cons]
    simp only [List.length_cons] at h
    rw [foldl_set off l (k + 1) (cur.setIfInBounds (off + k) v) (by simp; omega)]
    apply List.ext_getElem?
    intro j
    have e1 := three_get (l := cur.toList) (m := v :: l) (off := off + k) (n := (v :: l).length) rfl (by simp; omega) j
    have e2 := three_get (l := (cur.setIfInBounds (off + k) v).toList) (m := l) (off := off + (k + 1)) (n := l.length) rfl (by simp; omega) j
    rw [e2, e1]
    simp only [List.length_cons, Array.toList_setIfInBounds, List.getElem?_set]
    by_cases h1 : j < off + k
    · rw [if_pos (by omega), if_pos h1, if_neg (by omega)]
    · by_cases h2 : j = off + k
      · subst h2
        rw [if_pos (show off + k < off + (k + 1) by omega), if_neg h1, if_pos (show off + k < off + k + (l.length + 1) by omega), if_pos rfl, if_pos (show off + k < cur.toList.length by simp; omega)]
        simp
      · rw [if_neg (by omega), if_neg h1]
        by_cases h3 : j < off + (k + 1) + l.length
        · rw [if_pos h3, if_pos (by omega)]
          have : j - (off + k) = (j - (off + (k + 1))) + 1 := by omega
          rw [this]; simp
        · rw [if_neg h3, if_neg (by omega), if_neg (by omega)]

def fillL {α : Type} (place : Nat → Option (Nat × Nat)) : List α → List (Nat × List α) → Option (List α)
  | cells, [] => some cells
  | cells, (i, cs) :: r => match place i with
    | some (off, size) => if cs.length = size ∧ off + size ≤ cells.length then fillL place (cells.take off ++ cs ++ cells.drop (off + size)) r else none
    | none => none

theorem fillL_ok {α : Type} {R : α → Value → Prop} {place : Nat → Option (Nat × Nat)} : ∀ {ps : List (Nat × List α)} {vs : List (Nat × Value)} {cells : List α} {cur : Array Value} {r : List α}, fillL place cells ps = some r →
    ps.length = vs.length → (∀ j (h : j < ps.length) (h' : j < vs.length), ps[j].1 = vs[j].1 ∧ vs[j].2.cells.size = ps[j].2.length ∧ ∀ k (g : k < ps[j].2.length) (g' : k < vs[j].2.cells.size), R ps[j].2[k] vs[j].2.cells[k]) →
    cur.size = cells.length → (∀ j (h : j < cells.length) (h' : j < cur.size), R cells[j] cur[j]) →
    ∃ us, Instr.fill place cur vs = some us ∧ us.size = r.length ∧ ∀ j (h : j < r.length) (h' : j < us.size), R r[j] us[j]
  | [], vs, cells, cur, r, h, hl, hv, hs, hr => by
    simp only [fillL, Option.some.injEq] at h; subst h
    match vs, hl with
    | [], _ => exact ⟨cur, rfl, hs, hr⟩
  | (i, cs) :: ps, vs, cells, cur, r, h, hl, hv, hs, hr => by
    match vs, hl with
    | (i', v) :: vs, hl =>
      simp only [fillL] at h
      split at h
      · rename_i off size hp
        split at h
        · rename_i hc
          obtain ⟨e1, e2, e3⟩ := hv 0 (by simp) (by simp)
          simp only [List.getElem_cons_zero] at e1 e2 e3
          subst e1
          have hf := foldl_set off v.cells.toList 0 cur (by simp; omega)
          rw [Nat.add_zero] at hf
          obtain ⟨us, h1, h2, h3⟩ := fillL_ok (cur := (v.cells.zipIdx.foldl (fun cs (c, j) => cs.setIfInBounds (off + j) c) cur)) h (by simpa using hl) (fun j hj hj' => by
            have := hv (j + 1) (by simp; omega) (by simp; omega)
            simpa using this) (by
              have hz : (v.cells.zipIdx.foldl (fun cs (c, j) => cs.setIfInBounds (off + j) c) cur).toList = cur.toList.take off ++ v.cells.toList ++ cur.toList.drop (off + v.cells.toList.length) := by
                rw [← hf, ← Array.foldl_toList]; simp
              rw [← Array.length_toList, hz]; simp [e2, hs, hc.1]) (fun j hj hj' => by
              have hz : (v.cells.zipIdx.foldl (fun cs (c, j) => cs.setIfInBounds (off + j) c) cur).toList = cur.toList.take off ++ v.cells.toList ++ cur.toList.drop (off + size) := by
                have : v.cells.toList.length = size := by simp [e2, hc.1]
                rw [← this, ← hf, ← Array.foldl_toList]; simp
              have hj2 : j < (cur.toList.take off ++ v.cells.toList ++ cur.toList.drop (off + size)).length := by rw [← hz]; simpa using hj'
              have hg : (v.cells.zipIdx.foldl (fun cs (c, j) => cs.setIfInBounds (off + j) c) cur)[j] = (cur.toList.take off ++ v.cells.toList ++ cur.toList.drop (off + size))[j] := by
                rw [← Array.getElem_toList]; congr 1
              rw [hg]
              exact three_rel (R := R) (cs := cells) (us := cur.toList) (ms := cs) (ns := v.cells.toList) (off := off) (n := size) (by simpa using Nat.le_of_eq hs.symm) hc.1 (by simp [e2, hc.1]) hc.2
                (fun j hj hj' => by simpa using hr j hj (by simpa using hj')) (fun j hj hj' => by simpa using e3 j hj (by simpa using hj')) j hj hj2)
          refine ⟨us, ?_, h2, h3⟩
          rw [Instr.fill, hp]
          simp only
          rw [if_neg (by simp; omega)]
          exact h1
        · cases h
      · cases h

/-! ### build: a struct or an array of parts -/
/-- A part, with the value that stands there. -/
def evalPart (a : Act) (p : Nat × Operand) : Nat × Value := (p.1, a.eval p.2)

/-- What parts are, as cells. -/
def partsS (E : Env) : List (Nat × Operand) → Option (List (Nat × List SV))
  | [] => some []
  | (i, x) :: r => match evalO E x, partsS E r with
    | some s, some l => if s.one = true then some ((i, s.cells) :: l) else none
    | _, _ => none
/-- The same of data. -/
def partsD (E : Env) : List (Nat × Operand) → Option (List (Nat × List D))
  | [] => some []
  | (i, x) :: r => match evalO E x, partsD E r with
    | some s, some l => match s.toD with
      | some d => if d.one = true then some ((i, d.cells) :: l) else none
      | none => none
    | _, _ => none

theorem partsS_ok (h : Rel m0 w0 G E S F a w) : ∀ {xs : List (Nat × Operand)} {ps : List (Nat × List SV)}, partsS E xs = some ps → ps.length = (xs.map (evalPart a)).length ∧
    ∀ j (h : j < ps.length) (h' : j < (xs.map (evalPart a)).length), ps[j].1 = (xs.map (evalPart a))[j].1 ∧ (xs.map (evalPart a))[j].2.cells.size = ps[j].2.length ∧
      ∀ k (g : k < ps[j].2.length) (g' : k < (xs.map (evalPart a))[j].2.cells.size), (ps[j].2[k]).cell = true ∧ VR G w ps[j].2[k] (xs.map (evalPart a))[j].2.cells[k]
  | [], ps, he => by simp only [partsS, Option.some.injEq] at he; subst he; exact ⟨rfl, fun j hj => by simp at hj⟩
  | (i, x) :: r, ps, he => by
    simp only [partsS] at he
    split at he
    · rename_i s l h1 h2
      split at he
      · rename_i h3
        simp only [Option.some.injEq] at he; subst he
        obtain ⟨hl, hg⟩ := partsS_ok h h2
        obtain ⟨g1, g2⟩ := (evalO_ok h h1).cells h3
        refine ⟨by simpa using hl, fun j hj hj' => ?_⟩
        cases j with
        | zero => exact ⟨rfl, g1, g2⟩
        | succ j => exact hg j (by simpa using hj) (by simpa using hj')
      · cases he
    · cases he

theorem partsD_ok (h : Rel m0 w0 G E S F a w) : ∀ {xs : List (Nat × Operand)} {ps : List (Nat × List D)}, partsD E xs = some ps → ps.length = (xs.map (evalPart a)).length ∧
    ∀ j (h : j < ps.length) (h' : j < (xs.map (evalPart a)).length), ps[j].1 = (xs.map (evalPart a))[j].1 ∧ (xs.map (evalPart a))[j].2.cells.size = ps[j].2.length ∧
      ∀ k (g : k < ps[j].2.length) (g' : k < (xs.map (evalPart a))[j].2.cells.size), (ps[j].2[k]).cell = true ∧ PV G.mark w ps[j].2[k] (xs.map (evalPart a))[j].2.cells[k]
  | [], ps, he => by simp only [partsD, Option.some.injEq] at he; subst he; exact ⟨rfl, fun j hj => by simp at hj⟩
  | (i, x) :: r, ps, he => by
    simp only [partsD] at he
    split at he
    · rename_i s l h1 h2
      split at he
      · rename_i d h3
        split at he
        · rename_i h4
          simp only [Option.some.injEq] at he; subst he
          obtain ⟨hl, hg⟩ := partsD_ok h h2
          obtain ⟨g1, g2⟩ := ((evalO_ok h h1).toD h3).cellsOf h4
          refine ⟨by simpa using hl, fun j hj hj' => ?_⟩
          cases j with
          | zero => exact ⟨rfl, g1, g2⟩
          | succ j => exact hg j (by simpa using hj) (by simpa using hj')
        · cases he
      · cases he
    · cases he

/-- Where a part of a struct or an array lies, and how many cells it has. -/
def placeOf (P : Program) (T : TypeId) (i : Nat) : Option (Nat × Nat) :=
  match P.underlying T with
  | some (.struct fs) => match fs[i]? with
    | some f => (szOf P f.type).map fun n => (f.offset, n)
    | none => none
  | some (.array _ e) => (szOf P e).map fun n => (i * n, n)
  | _ => none
/-- All of a struct's fields, or an array's elements, have a size. -/
def sized (P : Program) (T : TypeId) : Bool :=
  match P.underlying T with
  | some (.struct fs) => fs.toList.all fun f => (szOf P f.type).isSome
  | some (.array _ e) => (szOf P e).isSome
  | _ => false

theorem mapM_places : ∀ {fs : List Field}, fs.all (fun f : Field => (szOf P f.type).isSome) = true → (fs.mapM fun f : Field => (do Pure.pure (f.offset, ← sizeOf f.type) : Sem (Nat × Nat))).run P w = .ok (fs.map fun f : Field => (f.offset, (szOf P f.type).getD 0)) w
  | [], h => rfl
  | f :: fs, h => by
    simp only [List.all_cons, Bool.and_eq_true] at h
    obtain ⟨n, hn⟩ := Option.isSome_iff_exists.1 h.1
    rw [List.mapM_cons]
    simp only [Sem.run_bind, run_size hn, Result.andThen_ok, Sem.run_pure, mapM_places h.2, hn, List.map_cons, Option.getD_some]

theorem does_build {T : TypeId} {ps : Array (Nat × Operand)} {zs cells : List SV} {l : List (Nat × List SV)} (ho : o.op = .build T ps) (h : Rel m0 w0 G E S F a w) (hz : zeroCellsOf P T = some zs) (hp : partsS E ps.toList = some l)
    (hsz : sized P T = true) (hf : fillL (placeOf P T) zs l = some cells) : Does P m0 w0 G E S F a w o (.ag cells) S F := by
  obtain ⟨z, h1, h2, h3⟩ := zeroCells_ok hz
  obtain ⟨p1, p2⟩ := partsS_ok h hp
  obtain ⟨us, g1, g2, g3⟩ := fillL_ok (R := fun s u => s.cell = true ∧ VR G w s u) hf p1 (fun j hj hj' => p2 j hj hj') h2 (fun j hj hj' => h3 G w j hj hj')
  refine .quiet h (u := .agg us) ?_ ?_
  · have hmap : (ps.map fun (i, x) => (i, a.eval x)).toList = ps.toList.map (evalPart a) := by rw [Array.toList_map]; rfl
    simp only [execOp, ho, Instr.build]
    unfold sized at hsz
    unfold placeOf at g1
    split at hsz
    · rename_i fs hu
      simp only [hu] at g1
      have hm := mapM_places (w := w) hsz
      have hplaces : (fs.mapM fun f : Field => (do Pure.pure (f.offset, ← sizeOf f.type) : Sem (Nat × Nat))).run P w = .ok (fs.toList.map fun f : Field => (f.offset, (szOf P f.type).getD 0)).toArray w := by
        rw [Array.mapM_eq_mapM_toList]
        simp only [Sem.run_map]
        rw [hm]; rfl
      have hpl : (fun i : Nat => ((fs.toList.map fun f : Field => (f.offset, (szOf P f.type).getD 0)).toArray)[i]?) = fun i : Nat => match fs[i]? with | some f => (szOf P f.type).map fun n => (f.offset, n) | none => none := by
        funext i
        simp only [List.getElem?_toArray, List.getElem?_map, Array.getElem?_toList]
        cases hfi : fs[i]? with
        | none => rfl
        | some f =>
          have hmem : f ∈ fs.toList := by
            rw [← Array.getElem?_toList] at hfi
            exact List.mem_of_getElem? hfi
          obtain ⟨n, hn⟩ := Option.isSome_iff_exists.1 (List.all_eq_true.1 hsz f hmem)
          simp [hn]
      simp only [Sem.run_bind, run_zero h1, Result.andThen_ok, run_under hu]
      rw [hplaces]
      simp only [Result.andThen_ok]
      rw [hpl, hmap, g1]
      rfl
    · rename_i n e hu
      simp only [hu] at g1
      obtain ⟨k, hk⟩ := Option.isSome_iff_exists.1 hsz
      simp only [hk, Option.map_some] at g1
      simp only [Sem.run_bind, run_zero h1, Result.andThen_ok, run_under hu, run_size hk]
      rw [hmap, g1]
      rfl
    · cases hsz
  · have := VR.ag (G := G) (w := w) (cs := cells) (us := us.toList) (by simpa using g2) (fun j hj => (g3 j hj (by omega)).1) (fun j hj hj' => by simpa using (g3 j hj (by simpa using hj')).2)
    simpa using this

/-! ### a row of literals -/
/-- A type's zero value, as data. -/
def zeroD (P : Program) (e : TypeId) : Option (List D) := (zeroCellsOf P e).bind toDs

/-- A row that is made whole, of data. -/
theorem does_row {us : Array Value} {cs : List D} {n c : Nat} {T : TypeId} (h : Rel m0 w0 G E S F a w) (hr : (execOp a.eval o).run P w = .ok (.value (.slice (some ⟨w.heap.size, 0, none⟩) n c)) (w.alloc (.cells us T))) (hn : n ≤ c) (hcn : c = n)
    (hl : us.size = cs.length) (hv : ∀ j (h : j < cs.length) (h' : j < us.size), (cs[j]).cell = true ∧ PV G.mark w cs[j] us[j]) : Does P m0 w0 G E S F a w o (.fl cs n) S F := by
  let m' : Nat → Nat := fun B => if B = w.heap.size then us.size else G.mark B
  have hb : Below w.heap.size w (w.alloc (.cells us T)) := (Below.refl _ _).alloc (Nat.le_refl _) _
  obtain ⟨hr', f⟩ := h.called (m' := m') (fun B hB => if_neg (by omega)) (fun B hB => by simp at hB; show (if B = w.heap.size then us.size else G.mark B) = 0; rw [if_neg (by omega)]; exact h.new B (by omega)) (fun _ B hB hpos => by
    by_cases e : B = w.heap.size
    · subst e; exact .inl ⟨us, T, heap_alloc_self⟩
    · have hpos : 0 < if B = w.heap.size then us.size else G.mark B := hpos
      rw [if_neg e, h.new B hB] at hpos; exact absurd hpos (Nat.lt_irrefl _)) hb
  refine ⟨_, _, _, _, hr, .inl rfl, .fl (PV.mk (us := us.toList) (by simpa using hl) hn (fun j v hj => ?_) (fun j hj hj' => ?_)) (fun A k c' e => by cases e; exact hcn), hr', f⟩
  · obtain ⟨hlt, _⟩ := List.getElem?_eq_some_iff.1 hj
    refine ⟨?_, ?_⟩
    · show 0 + j < if w.heap.size = w.heap.size then us.size else _
      rw [if_pos rfl]; simpa using hlt
    · rw [Nat.zero_add, World.cell?_alloc_new]; simpa using hj
  · have := hv j hj (by simpa using hj')
    exact ⟨this.1, by simpa using this.2.fut f⟩

theorem toDs_rel {zs : List SV} {ds : List D} {us : Array Value} (h : toDs zs = some ds) (hl : us.size = zs.length) (hv : ∀ j (h : j < zs.length) (h' : j < us.size), (zs[j]).cell = true ∧ VR G w zs[j] us[j]) :
    us.size = ds.length ∧ ∀ j (h : j < ds.length) (h' : j < us.size), (ds[j]).cell = true ∧ PV G.mark w ds[j] us[j] := by
  obtain ⟨h1, h2⟩ := toDs_get h
  exact ⟨by omega, fun j hj hj' => ⟨toD_cell (h2 j (by omega) hj) (hv j (by omega) hj').1, (hv j (by omega) hj').2.toD (h2 j (by omega) hj)⟩⟩

theorem run_buildSlice {T e : TypeId} {n sz : Nat} {ps : Array (Nat × Operand)} {zs cells : List D} {l : List (Nat × List D)} (ho : o.op = .buildSlice T n ps) (h : Rel m0 w0 G E S F a w) (hu : P.underlying T = some (.slice e)) (hs : szOf P e = some sz)
    (hz : zeroD P e = some zs) (hzl : zs.length = sz) (hle : n * sz ≤ 16777216) (hp : partsD E ps.toList = some l)
    (hf : fillL (fun i => some (i * sz, sz)) ((List.range (n * sz)).map fun j => zs.getD (j % sz) default) l = some cells) :
    ∃ us : Array Value, (execOp a.eval o).run P w = .ok (.value (.slice (some ⟨w.heap.size, 0, none⟩) n n)) (w.alloc (.cells us e)) ∧ us.size = cells.length ∧ ∀ j (h : j < cells.length) (h' : j < us.size), (cells[j]).cell = true ∧ PV G.mark w cells[j] us[j] := by
  unfold zeroD at hz
  simp only [Option.bind_eq_some_iff] at hz
  obtain ⟨zs', hz1, hz2⟩ := hz
  obtain ⟨z, h1, h2, h3⟩ := zeroCells_ok hz1
  obtain ⟨q1, q2⟩ := toDs_rel (G := G) (w := w) hz2 h2 (h3 G w)
  obtain ⟨p1, p2⟩ := partsD_ok h hp
  have hstart : ∀ j (hj : j < ((List.range (n * sz)).map fun j => zs.getD (j % sz) default).length) (hj' : j < ((Array.range (n * sz)).map fun j => (if n * sz = 0 then #[] else z.cells)[j % (if n * sz = 0 then #[] else z.cells).size]!).size),
      (((List.range (n * sz)).map fun j => zs.getD (j % sz) default)[j]).cell = true ∧ PV G.mark w (((List.range (n * sz)).map fun j => zs.getD (j % sz) default)[j]) (((Array.range (n * sz)).map fun j => (if n * sz = 0 then #[] else z.cells)[j % (if n * sz = 0 then #[] else z.cells).size]!)[j]) := by
    intro j hj hj'
    have hj2 : j < n * sz := by simpa using hj
    have hne : n * sz ≠ 0 := by omega
    have hsz : 0 < sz := by
      rcases Nat.eq_zero_or_pos sz with e0 | e0
      · subst e0; simp at hne
      · exact e0
    have hmod : j % sz < zs.length := by rw [hzl]; exact Nat.mod_lt _ hsz
    have hzsz : z.cells.size = sz := by omega
    have := q2 (j % sz) hmod (by omega)
    simp only [List.getElem_map, List.getElem_range, Array.getElem_map, Array.getElem_range, if_neg hne, hzsz]
    rw [List.getD_eq_getElem?_getD, List.getElem?_eq_getElem hmod, Option.getD_some, getElem!_pos z.cells (j % sz) (by omega)]
    exact this
  obtain ⟨us, g1, g2, g3⟩ := fillL_ok (R := fun s u => s.cell = true ∧ PV G.mark w s u) (cur := (Array.range (n * sz)).map fun j => (if n * sz = 0 then #[] else z.cells)[j % (if n * sz = 0 then #[] else z.cells).size]!) hf p1 (fun j hj hj' => p2 j hj hj') (by simp) hstart
  refine ⟨us, ?_, g2, g3⟩
  have hmap : (ps.map fun (i, x) => (i, a.eval x)).toList = ps.toList.map (evalPart a) := by rw [Array.toList_map]; rfl
  simp only [execOp, ho, Instr.buildSlice]
  simp only [Sem.run_bind, run_under hu, Result.andThen_ok, run_size hs]
  rw [if_neg (by omega)]
  by_cases h0 : n * sz = 0
  · simp only [h0, if_true] at g1 ⊢
    simp only [Sem.run_bind, Sem.run_pure, Result.andThen_ok]
    rw [hmap, g1]
    simp [run_newRow]
  · simp only [h0, if_false] at g1 ⊢
    simp only [Sem.run_bind, Sem.run_pure, Result.andThen_ok, run_zero h1]
    rw [hmap, g1]
    simp [run_newRow]
theorem does_buildSlice {T e : TypeId} {n sz : Nat} {ps : Array (Nat × Operand)} {zs cells : List D} {l : List (Nat × List D)} (ho : o.op = .buildSlice T n ps) (h : Rel m0 w0 G E S F a w) (hu : P.underlying T = some (.slice e)) (hs : szOf P e = some sz)
    (hz : zeroD P e = some zs) (hzl : zs.length = sz) (hle : n * sz ≤ 16777216) (hp : partsD E ps.toList = some l)
    (hf : fillL (fun i => some (i * sz, sz)) ((List.range (n * sz)).map fun j => zs.getD (j % sz) default) l = some cells) : Does P m0 w0 G E S F a w o (.fl cells n) S F := by
  obtain ⟨us, h1, h2, h3⟩ := run_buildSlice ho h hu hs hz hzl hle hp hf
  exact does_row (us := us) (T := e) h h1 (Nat.le_refl n) rfl h2 h3
end
end Go.Sh
