/- THE SHADOW, 19 (behind ShT): maps that are written, walks over maps, keys with pointers, copies of rows. Over any program. -/
import Derived.Test.YtghbkljdpikpdaaShT
set_option linter.unusedVariables false
set_option linter.unusedSimpArgs false
namespace Go.Sh
open Go.RowKit (Below)
section
variable {P : Program} {m0 : Nat → Nat} {w0 : World} {G : Gh} {E : Env} {S : St} {F : Nat → Prop} {a : Act} {w : World} {o : Oper}

theorem VR.mv_inv {b : Nat} {u : Value} (h : VR G w (.mv b) u) : ∃ B, G.obj b = some B ∧ u = .map (some B) := by
  cases h with
  | mv h => exact ⟨_, h, rfl⟩
theorem VR.iv_inv {b : Nat} {u : Value} (h : VR G w (.iv b) u) : ∃ B, G.obj b = some B ∧ u = .pointer (some ⟨B, 0, none⟩) := by
  cases h with
  | iv h => exact ⟨_, h, rfl⟩
theorem PV.mp_inv {m : Nat → Nat} {ks vs : List D} {u : Value} (h : PV m w (.mp ks vs) u) : ∃ (B : Nat) (es : Array MapEntry), u = .map (some B) ∧ 0 < m B ∧ w.heap[B]? = some (.map es es.size) ∧ es.size = ks.length ∧ es.size = vs.length ∧ (∀ j (h : j < es.size), es[j].born = j) ∧
    (∀ j (h : j < ks.length) (h' : j < es.size), PV m w ks[j] es[j].key) ∧ ∀ j (h : j < vs.length) (h' : j < es.size), PV m w vs[j] es[j].val := by
  cases h with
  | mp es hm hb h1 h2 hborn hk hv => exact ⟨_, es, rfl, hm, hb, h1, h2, hborn, hk, hv⟩
/-- A map that is a variable. -/
theorem Rel.mapOf (h : Rel m0 w0 G E S F a w) {b B : Nat} {ks : List D} {vs : List SV} (hb : S.B b = some [.mc ks vs]) (hg : G.obj b = some B) : ∃ es : Array MapEntry, w.heap[B]? = some (.map es es.size) ∧ es.size = ks.length ∧ es.size = vs.length ∧ (∀ j (h : j < es.size), es[j].born = j) ∧
    (∀ j (h : j < ks.length) (h' : j < es.size), PV G.mark w ks[j] es[j].key) ∧ ∀ j (h : j < vs.length) (h' : j < es.size), VR G w vs[j] es[j].val := by
  obtain ⟨_, _, _, k4⟩ := h.more.obj b _ B hb hg
  cases k4 with
  | mp es hb h1 h2 hborn hk hv => exact ⟨es, hb, h1, h2, hborn, hk, hv⟩

theorem does_lookup_var {T : TypeId} {x y : Operand} {ok : Bool} {b : Nat} {ks : List D} {vs : List SV} {s : ByteArray} {r : SV} (ho : o.op = .lookup T x y ok) (h : Rel m0 w0 G E S F a w) (hx : evalO E x = some (.mv b)) (hb : S.B b = some [.mc ks vs])
    (hy : evalO E y = some (.d (.v (.string s)))) (hr : lookS P T ks vs s ok = some r) : Does P m0 w0 G E S F a w o r S F := by
  obtain ⟨B, hg, e⟩ := (evalO_ok h hx).mv_inv
  obtain ⟨es, h1, h2, h3, h4, h5, h6⟩ := h.mapOf hb hg
  exact does_lookup_str ho h e h1 hy h2 h3 h5 h6 hr
theorem does_lookup_data {T : TypeId} {x y : Operand} {ok : Bool} {ks vs : List D} {s : ByteArray} {r : SV} (ho : o.op = .lookup T x y ok) (h : Rel m0 w0 G E S F a w) (hx : evalO E x = some (.d (.mp ks vs)))
    (hy : evalO E y = some (.d (.v (.string s)))) (hr : lookS P T ks (vs.map .d) s ok = some r) : Does P m0 w0 G E S F a w o r S F := by
  have hX := evalO_ok h hx
  generalize hu : a.eval x = u at hX
  cases hX with
  | d hp =>
    obtain ⟨B, es, rfl, hm, h1, h2, h3, h4, h5, h6⟩ := hp.mp_inv
    exact does_lookup_str ho h hu h1 hy h2 (by simpa using h3) h5 (fun j hj hj' => by simp only [List.getElem_map]; exact .d (h6 j (by simpa using hj) hj')) hr
/-- Nothing is in a map that is nil. -/
theorem does_lookup_nil {T e : TypeId} {x y : Operand} {ok : Bool} {s : ByteArray} {r : SV} (ho : o.op = .lookup T x y ok) (h : Rel m0 w0 G E S F a w) (hx : evalO E x = some (.d (.v (.map none))))
    (hy : evalO E y = some (.d (.v (.string s)))) (hT : Sh.mapOf P T = some e) (hr : lookR P e none ok = some r) : Does P m0 w0 G E S F a w o r S F := by
  obtain ⟨k, hu, hks⟩ := mapOf_ok hT
  simp only [lookR, Option.map_eq_some_iff] at hr
  obtain ⟨z, hz, rfl⟩ := hr
  obtain ⟨u, hzu, hzv⟩ := zeroS_ok (G := G) (w := w) hz
  have hck := fun e => MapKept.run_checkKey (P := P) (w := w) hks (k := .string s) (by simp [MapKept.IsKey]) e 9999
  have hf := MapKept.run_findKey (P := P) (w := w) (k := .string s) (l := []) (a := none) hks rfl
  cases ok with
  | false =>
    refine .quiet h (u := u) ?_ (by simpa using hzv)
    simp only [execOp, ho, evalO_v h hx, evalO_v h hy, Instr.lookup]
    simp [run_under hu, hck, hf, run_zero hzu]
  | true =>
    refine .quiet h (u := .tuple #[u, .bool false]) ?_ (by
      have := VR.tu2 hzv (VR.d (G := G) (w := w) (PV.v (x := .bool false) rfl))
      simpa using this)
    simp only [execOp, ho, evalO_v h hx, evalO_v h hy, Instr.lookup]
    simp [run_under hu, hck, hf, run_zero hzu]

/-! ### writing -/
theorem getElem_modify_born {es : Array MapEntry} {j : Nat} {f : MapEntry → MapEntry} (hf : ∀ e, (f e).born = e.born) (hborn : ∀ i (h : i < es.size), es[i].born = i) : ∀ i (h : i < (es.modify j f).size), (es.modify j f)[i].born = i := by
  intro i hi
  have hi' : i < es.size := by simpa using hi
  rw [Array.getElem_modify]
  split
  · rw [hf]; exact hborn i hi'
  · exact hborn i hi'

/-- An entry's value turns, its key stands for what it stood for. -/
theorem ObjR.modify {W : World} {ks : List D} {vs : List SV} {B : Nat} {es : Array MapEntry} {j : Nat} {f : MapEntry → MapEntry} {v : SV} (hj : j < es.size) (hB : W.heap[B]? = some (.map (es.modify j f) es.size)) (h1 : es.size = ks.length) (h2 : es.size = vs.length) (hborn : ∀ j (h : j < es.size), es[j].born = j)
    (hk : ∀ j (h : j < ks.length) (h' : j < es.size), PV G.mark W ks[j] es[j].key) (hv : ∀ j (h : j < vs.length) (h' : j < es.size), VR G W vs[j] es[j].val)
    (hf : ∀ e, (f e).born = e.born) (hfk : (f es[j]).key = es[j].key) (hfv : VR G W v (f es[j]).val) : ObjR G W [.mc ks (vs.set j v)] B := by
  have hsz : (es.modify j f).size = es.size := by simp
  refine .mp (es.modify j f) (by rw [hsz]; exact hB) (by rw [hsz]; exact h1) (by rw [hsz, List.length_set]; exact h2) (getElem_modify_born hf hborn) (fun i hi hi' => ?_) (fun i hi hi' => ?_)
  · rw [Array.getElem_modify]
    split
    · rename_i e; subst e; rw [hfk]; exact hk _ hi hj
    · exact hk i hi (by simpa using hi')
  · rw [Array.getElem_modify, List.getElem_set]
    split
    · rename_i e; subst e; exact hfv
    · exact hv i (by simpa using hi) (by simpa using hi')

theorem ObjR.push {W : World} {ks : List D} {vs : List SV} {B : Nat} {es : Array MapEntry} {k : D} {v : SV} {uk uv : Value} (hB : W.heap[B]? = some (.map (es.push { key := uk, val := uv, born := es.size }) (es.size + 1))) (h1 : es.size = ks.length) (h2 : es.size = vs.length) (hborn : ∀ j (h : j < es.size), es[j].born = j)
    (hk : ∀ j (h : j < ks.length) (h' : j < es.size), PV G.mark W ks[j] es[j].key) (hv : ∀ j (h : j < vs.length) (h' : j < es.size), VR G W vs[j] es[j].val) (hk2 : PV G.mark W k uk) (hv2 : VR G W v uv) : ObjR G W [.mc (ks ++ [k]) (vs ++ [v])] B := by
  refine .mp (es.push { key := uk, val := uv, born := es.size }) (by simpa using hB) (by simpa using h1) (by simpa using h2) (fun j hj => ?_) (fun j hj hj' => ?_) (fun j hj hj' => ?_)
  · rw [Array.getElem_push]
    split
    · rename_i h; exact hborn j h
    · have : j < es.size + 1 := by simpa using hj
      show es.size = j
      omega
  · rw [Array.getElem_push]
    split
    · rename_i h; rw [List.getElem_append_left (by omega)]; exact hk j (by omega) h
    · have : j < es.size + 1 := by simpa using hj'
      rw [List.getElem_append_right (by omega)]
      simpa using hk2
  · rw [Array.getElem_push]
    split
    · rename_i h; rw [List.getElem_append_left (by omega)]; exact hv j (by omega) h
    · have : j < es.size + 1 := by simpa using hj'
      rw [List.getElem_append_right (by omega)]
      simpa using hv2

/-- What a map has when a text is given a value. -/
def updK (ks : List D) (vs : List SV) (s : ByteArray) (v : SV) : Option SV :=
  match idxK ks s with
  | some (some j) => some (.mc ks (vs.set j v))
  | some none => some (.mc (ks ++ [.v (.string s)]) (vs ++ [v]))
  | none => none

theorem does_mapUpdate {T e : TypeId} {x y z : Operand} {b : Nat} {ks : List D} {vs : List SV} {s : ByteArray} {v c : SV} (ho : o.op = .mapUpdate T x y z) (h : Rel m0 w0 G E S F a w) (hx : evalO E x = some (.mv b)) (hb : S.B b = some [.mc ks vs])
    (hy : evalO E y = some (.d (.v (.string s)))) (hz : evalO E z = some v) (hT : Sh.mapOf P T = some e) (hc : updK ks vs s v = some c) : Does P m0 w0 G E S F a w o (.d (.v undef)) (S.set b [c]) F := by
  obtain ⟨B, hg, hX⟩ := (evalO_ok h hx).mv_inv
  obtain ⟨es, h1, h2, h3, h4, h5, h6⟩ := h.mapOf hb hg
  obtain ⟨k, hu, hks⟩ := mapOf_ok hT
  have hV := evalO_ok h hz
  generalize hz' : a.eval z = uv at hV
  have hck := fun e => MapKept.run_checkKey (P := P) (w := w) hks (k := .string s) (by simp [MapKept.IsKey]) e 9999
  unfold updK at hc
  split at hc
  · rename_i j hi
    simp only [Option.some.injEq] at hc; subst hc
    rcases find_str (G := G) (w := w) (es := es.toList) 0 hi (by simpa using h2) (fun j hj hj' => by simpa using h5 j hj (by simpa using hj')) with ⟨e1, _⟩ | ⟨j', e1, hj, hkey, hf⟩
    · cases e1
    cases e1
    have hj2 : j < es.size := by simpa using hj
    have hkey2 : es[j].key = .string s := by simpa using hkey
    have hf2 := MapKept.run_findKey (P := P) (w := w) hks hf
    obtain ⟨r1, f⟩ := h.set_obj hb hg (o' := .map (es.modify j fun e => { e with key := .string s, val := uv }) es.size) (cs' := [.mc ks (vs.set j v)]) (fun _ _ _ e => by cases e) (fun W f hW => ObjR.modify hj2 hW h2 h3 h4 (fun j hj hj' => (h5 j hj hj').fut f) (fun j hj hj' => (h6 j hj hj').fut f) (fun _ => rfl) hkey2.symm (hV.fut f)) rfl
    refine ⟨_, undef, _, G, ?_, .inr ⟨rfl, rfl⟩, .d (.v rfl), r1, f⟩
    have hst := MapKept.run_keyThatStays (P := P) (w := w) (d := .string) (k := .string s) (by simp [MapKept.IsKey])
    simp only [execOp, ho, hX, evalO_v h hy, hz', Instr.mapUpdate]
    simp [run_under hu, MapKept.run_getObj_map h1, hck, hf2, hj2, hkey2, hst, MapKept.run_setObj_map _ h1]
  · rename_i hi
    simp only [Option.some.injEq] at hc; subst hc
    rcases find_str (G := G) (w := w) (es := es.toList) 0 hi (by simpa using h2) (fun j hj hj' => by simpa using h5 j hj (by simpa using hj')) with ⟨_, hf⟩ | ⟨j', e1, _⟩
    · have hf2 := MapKept.run_findKey (P := P) (w := w) hks hf
      obtain ⟨r1, f⟩ := h.set_obj hb hg (o' := .map (es.push { key := .string s, val := uv, born := es.size }) (es.size + 1)) (cs' := [.mc (ks ++ [.v (.string s)]) (vs ++ [v])]) (fun _ _ _ e => by cases e) (fun W f hW => ObjR.push hW h2 h3 h4 (fun j hj hj' => (h5 j hj hj').fut f) (fun j hj hj' => (h6 j hj hj').fut f) (.v rfl) (hV.fut f)) rfl
      refine ⟨_, undef, _, G, ?_, .inr ⟨rfl, rfl⟩, .d (.v rfl), r1, f⟩
      simp only [execOp, ho, hX, evalO_v h hy, hz', Instr.mapUpdate]
      simp [run_under hu, MapKept.run_getObj_map h1, hck, hf2, MapKept.run_setObj_map _ h1]
    · cases e1
  · cases hc

/-- What a map has behind the step that finds an entry or makes one; what it found, and the entry's stamp. -/
def entK (P : Program) (e : TypeId) (ks : List D) (vs : List SV) (s : ByteArray) : Option (SV × SV) :=
  match idxK ks s with
  | some (some j) => match vs[j]? with
    | some v => some (.tu [v, .d (.v (.int .i64 j))], .mc ks vs)
    | none => none
  | some none => (zeroS P e).map fun z => (.tu [z, .d (.v (.int .i64 ks.length))], .mc (ks ++ [.v (.string s)]) (vs ++ [z]))
  | none => none

theorem does_mapEntry {T e : TypeId} {x y : Operand} {b : Nat} {ks : List D} {vs : List SV} {s : ByteArray} {r c : SV} (ho : o.op = .mapEntry T x y) (h : Rel m0 w0 G E S F a w) (hx : evalO E x = some (.mv b)) (hb : S.B b = some [.mc ks vs])
    (hy : evalO E y = some (.d (.v (.string s)))) (hT : Sh.mapOf P T = some e) (hc : entK P e ks vs s = some (r, c)) : Does P m0 w0 G E S F a w o r (S.set b [c]) F := by
  obtain ⟨B, hg, hX⟩ := (evalO_ok h hx).mv_inv
  obtain ⟨es, h1, h2, h3, h4, h5, h6⟩ := h.mapOf hb hg
  obtain ⟨k, hu, hks⟩ := mapOf_ok hT
  have hck := fun e => MapKept.run_checkKey (P := P) (w := w) hks (k := .string s) (by simp [MapKept.IsKey]) e 9999
  unfold entK at hc
  split at hc
  · rename_i j hi
    split at hc
    · rename_i v hvj
      obtain ⟨hjl, hve⟩ := List.getElem?_eq_some_iff.1 hvj
      simp only [Option.some.injEq, Prod.mk.injEq] at hc; obtain ⟨rfl, rfl⟩ := hc
      rcases find_str (G := G) (w := w) (es := es.toList) 0 hi (by simpa using h2) (fun j hj hj' => by simpa using h5 j hj (by simpa using hj')) with ⟨e1, _⟩ | ⟨j', e1, hj, hkey, hf⟩
      · cases e1
      cases e1
      have hj2 : j < es.size := by simpa using hj
      have hkey2 : es[j].key = .string s := by simpa using hkey
      have hf2 := MapKept.run_findKey (P := P) (w := w) hks hf
      obtain ⟨r1, f⟩ := h.set_obj hb hg (o' := .map (es.modify j fun e => { e with key := .string s }) es.size) (cs' := [.mc ks vs]) (fun _ _ _ e => by cases e) (fun W f hW => by
        have := ObjR.modify (v := v) hj2 hW h2 h3 h4 (fun j hj hj' => (h5 j hj hj').fut f) (fun j hj hj' => (h6 j hj hj').fut f) (fun _ => rfl) hkey2.symm (by rw [← hve]; exact (h6 j hjl hj2).fut f)
        rw [show vs.set j v = vs by rw [← hve]; exact List.set_getElem_self hjl] at this
        exact this) rfl
      refine ⟨_, _, _, G, ?_, .inl rfl, VR.tu2 (u := es[j].val) (v := .int .i64 j) (by rw [← hve]; exact (h6 j hjl hj2).fut f) (.d (.v rfl)), r1, f⟩
      have hst := MapKept.run_keyThatStays (P := P) (w := w) (d := .string) (k := .string s) (by simp [MapKept.IsKey])
      simp only [execOp, ho, hX, evalO_v h hy, Instr.mapEntry]
      simp [run_under hu, MapKept.run_getObj_map h1, hck, hf2, hj2, hkey2, hst, MapKept.run_setObj_map _ h1, h4 j hj2, goInt]
    · cases hc
  · rename_i hi
    simp only [Option.map_eq_some_iff, Prod.mk.injEq] at hc
    obtain ⟨z, hz, rfl, rfl⟩ := hc
    obtain ⟨u, hzu, hzv⟩ := zeroS_ok (G := G) (w := w) hz
    rcases find_str (G := G) (w := w) (es := es.toList) 0 hi (by simpa using h2) (fun j hj hj' => by simpa using h5 j hj (by simpa using hj')) with ⟨_, hf⟩ | ⟨j', e1, _⟩
    · have hf2 := MapKept.run_findKey (P := P) (w := w) hks hf
      obtain ⟨r1, f⟩ := h.set_obj hb hg (o' := .map (es.push { key := .string s, val := u, born := es.size }) (es.size + 1)) (cs' := [.mc (ks ++ [.v (.string s)]) (vs ++ [z])]) (fun _ _ _ e => by cases e) (fun W f hW => ObjR.push hW h2 h3 h4 (fun j hj hj' => (h5 j hj hj').fut f) (fun j hj hj' => (h6 j hj hj').fut f) (.v rfl) (hzv.fut f)) rfl
      refine ⟨_, _, _, G, ?_, .inl rfl, VR.tu2 (u := u) (v := .int .i64 ks.length) (hzv.fut f) (.d (.v rfl)), r1, f⟩
      simp only [execOp, ho, hX, evalO_v h hy, Instr.mapEntry]
      simp [run_under hu, MapKept.run_getObj_map h1, hck, hf2, run_zero hzu, MapKept.run_setObj_map _ h1, goInt, h2]
    · cases e1
  · cases hc

theorem does_entryStore {T : TypeId} {x y z : Operand} {b j : Nat} {ks : List D} {vs : List SV} {v : SV} (ho : o.op = .entryStore T x y z) (h : Rel m0 w0 G E S F a w) (hx : evalO E x = some (.mv b)) (hb : S.B b = some [.mc ks vs])
    (hy : evalO E y = some (.d (.v (.int .i64 j)))) (hz : evalO E z = some v) (hj : j < vs.length) : Does P m0 w0 G E S F a w o (.d (.v undef)) (S.set b [.mc ks (vs.set j v)]) F := by
  obtain ⟨B, hg, hX⟩ := (evalO_ok h hx).mv_inv
  obtain ⟨es, h1, h2, h3, h4, h5, h6⟩ := h.mapOf hb hg
  have hV := evalO_ok h hz
  generalize hz' : a.eval z = uv at hV
  have hj2 : j < es.size := by omega
  have hnd : (es.toList.map (·.born)).Nodup := by
    have : es.toList.map (·.born) = List.range es.size := by
      refine List.ext_getElem (by simp) (fun i hi hi' => ?_)
      simp only [List.getElem_map, Array.getElem_toList, List.getElem_range]
      exact h4 i (by simpa using hi)
    rw [this]; exact List.nodup_range
  have hidx : es.findIdx? (fun e => ((e.born : Nat) : Int) == ((j : Nat) : Int)) = some j := by
    rw [WideElems.findIdx_arr]
    have := WideElems.findIdx_born (l := es.toList) hnd (j := j) (e0 := es[j]) (by simp [hj2])
    rw [h4 j hj2] at this
    exact this
  obtain ⟨r1, f⟩ := h.set_obj hb hg (o' := .map (es.modify j fun e => { e with val := uv }) es.size) (cs' := [.mc ks (vs.set j v)]) (fun _ _ _ e => by cases e) (fun W f hW => ObjR.modify hj2 hW h2 h3 h4 (fun j hj hj' => (h5 j hj hj').fut f) (fun j hj hj' => (h6 j hj hj').fut f) (fun _ => rfl) rfl (hV.fut f)) rfl
  refine ⟨_, undef, _, G, ?_, .inr ⟨rfl, rfl⟩, .d (.v rfl), r1, f⟩
  simp only [execOp, ho, hX, evalO_v h hy, hz', Instr.entryStore]
  simp [MapKept.run_getObj_map h1, asInt, asIntOf, hidx, MapKept.run_setObj_map _ h1]

/-! ### how many -/
def isMap (P : Program) (T : TypeId) : Bool := match P.underlying T with | some (.map _ _) => true | _ => false
theorem does_len_map {T : TypeId} {X : Operand} {B c : Nat} {es : Array MapEntry} (ho : o.op = .call { callee := .builtin .len, args := #[X], argTypes := #[T] }) (h : Rel m0 w0 G E S F a w) (hX : a.eval X = .map (some B)) (hb : w.heap[B]? = some (.map es c))
    (hu : isMap P T = true) : Does P m0 w0 G E S F a w o (.d (.v (.int .i64 es.size))) S F := by
  obtain ⟨k, e, hu⟩ : ∃ k e, P.underlying T = some (.map k e) := by unfold isMap at hu; split at hu <;> simp_all
  refine .quiet h (u := .int .i64 es.size) ?_ (.d (.v rfl))
  simp only [execOp, ho]
  simp [resolve, invoke, builtin, Builtin.len_, hX, run_under hu, MapKept.run_getObj_map hb, goInt]

/-! ### walks -/
theorem does_range {T : TypeId} {x : Operand} {ks vs : List D} {id : Nat} (ho : o.op = .range T x) (h : Rel m0 w0 G E S F a w) (hid : F id) (hx : evalO E x = some (.d (.mp ks vs))) (hu : isMap P T = true) :
    Does P m0 w0 G E S F a w o (.iv id) (S.new id [.ic ks vs []]) (fun b => F b ∧ b ≠ id) := by
  obtain ⟨k, e, hu⟩ : ∃ k e, P.underlying T = some (.map k e) := by unfold isMap at hu; split at hu <;> simp_all
  have hX := evalO_ok h hx
  generalize hxu : a.eval x = u at hX
  cases hX with
  | d hp =>
    obtain ⟨B, es, rfl, hm, h1, h2, h3, h4, h5, h6⟩ := hp.mp_inv
    obtain ⟨G', g1, f, g2⟩ := h.new_obj hid [.ic ks vs []] (.mapIter (some B) ks.length #[] ks.length) (fun _ _ _ e => by cases e) (fun G' W f hW => .it (by simpa using hW) (hp.fut f))
    refine ⟨_, _, _, G', ?_, .inl rfl, .iv g2, g1, f⟩
    have := run_range_map (P := P) w T k e B es es.size hu h1
    simp only [execOp, ho, hxu]
    rw [Sem.run_bind, this, h2]; rfl

/-- The stamps of the entries that are left. -/
theorem left_mem {es : Array MapEntry} {seen : List Nat} (hborn : ∀ j (h : j < es.size), es[j].born = j) {e : MapEntry} (he : e ∈ (leftOf es seen.toArray).toList) : ∃ j, ∃ hj : j < es.size, e = es[j] ∧ j ∉ seen := by
  obtain ⟨h1, h2⟩ := mem_left he
  obtain ⟨j, hj, rfl⟩ := List.getElem_of_mem h1
  have hj2 : j < es.size := by simpa using hj
  refine ⟨j, hj2, by simp, ?_⟩
  have e1 : es.toList[j].born = j := by simpa using hborn j hj2
  rw [e1] at h2
  simpa using h2

/-- One step of a walk: an entry that was not met, or all were. -/
theorem does_next {x : Operand} {b : Nat} {ks vs : List D} {seen : List Nat} (ho : o.op = .next x false) (h : Rel m0 w0 G E S F a w) (hx : evalO E x = some (.iv b)) (hb : S.B b = some [.ic ks vs seen]) :
    (∃ (j : Nat) (hk : j < ks.length) (hv : j < vs.length), j ∉ seen ∧ Does P m0 w0 G E S F a w o (.tu [.d (.v (.bool true)), .d ks[j], .d vs[j]]) (S.set b [.ic ks vs (seen ++ [j])]) F) ∨
    ((∀ j, j < ks.length → j ∈ seen) ∧ Does P m0 w0 G E S F a w o (.tu [.d (.v (.bool false))]) S F) := by
  obtain ⟨B, hg, hX⟩ := (evalO_ok h hx).iv_inv
  obtain ⟨_, _, _, k4⟩ := h.more.obj b _ B hb hg
  cases k4 with
  | it hB hm =>
    rename_i M
    obtain ⟨M', es, e1, hm0, h1, h2, h3, h4, h5, h6⟩ := hm.mp_inv
    cases e1
    have hlt := lt_of_heap hB
    have hold : ∀ y ∈ es.toList, y.born < ks.length := fun y hy => by
      obtain ⟨j, hj, rfl⟩ := List.getElem_of_mem hy
      have hj2 : j < es.size := by simpa using hj
      have := h4 j hj2
      simp only [Array.getElem_toList]
      omega
    have ntf := next_test_false seen.toArray es ks.length ks.length hold (Nat.le_refl _)
    have mem := fun {e : MapEntry} => left_mem (es := es) (seen := seen) h4 (e := e)
    have hall : (leftOf es seen.toArray).size = 0 → ∀ j, j < ks.length → j ∈ seen := fun h0 j hj => by
      have := all_seen es seen.toArray h0 es[j] (by simp)
      rw [h4 j (by omega)] at this
      simpa using this
    have hrun : ∀ r W, (Instr.next (.pointer (some ⟨B, 0, none⟩)) false o.type).run P w = .ok r W → (execOp a.eval o).run P w = .ok (.value r) W := fun r W hr => by
      simp only [execOp, ho, hX]
      rw [Sem.run_bind, hr]; rfl
    have gB : (getObj B).run P w = .ok (.mapIter (some M) ks.length seen.toArray ks.length) w := by simp [getObj, Sem.run, hB]
    have gM : (getObj M).run P w = .ok (.map es es.size) w := MapKept.run_getObj_map h1
    have e1 : (leftOf es seen.toArray).filter (fun x => decide (x.born < ks.length)) = leftOf es seen.toArray := Array.filter_eq_self.2 (fun y hy => by
      obtain ⟨j, hj, rfl, _⟩ := mem (e := y) (by simpa using hy)
      simpa [h4 j hj, ← h2] using hj)
    have e2 : (leftOf es seen.toArray).filter (fun x => decide (x.born ≥ ks.length)) = #[] := by
      rw [Array.filter_eq_empty_iff]
      intro y hy
      obtain ⟨j, hj, rfl, _⟩ := mem (e := y) (by simpa using hy)
      rw [h4 j hj]; simp; omega
    have e0 : es.filter (fun e => !seen.toArray.contains e.born) = leftOf es seen.toArray := rfl
    by_cases h0 : (leftOf es seen.toArray).size = 0
    · refine .inr ⟨hall h0, ?_⟩
      have hL : leftOf es seen.toArray = #[] := Array.eq_empty_of_size_eq_zero h0
      refine .quiet h (u := .tuple #[.bool false]) (hrun _ _ ?_) (by
        have := VR.tu (G := G) (w := w) (cs := [.d (.v (.bool false))]) (us := [.bool false]) rfl (fun j hj hj' => by
          have : j = 0 := by simpa using hj
          subst this
          exact .d (.v rfl))
        exact this)
      simp only [Instr.next, Sem.run_bind, gB, gM, Result.andThen, ntf, Bool.false_eq_true, if_false, e0, e1, e2]
      rw [hL]
      simp [choose, Sem.run, Question.forced]
    · have hch : ∃ (j : Nat) (w1 : World), j < (leftOf es seen.toArray).size ∧ (w1 = w ∨ w1 = w.drew) ∧ (choose (Question.mapNext (leftOf es seen.toArray).size)).run P w = .ok j w1 := by
        by_cases hf : (leftOf es seen.toArray).size ≤ 1
        · exact ⟨0, w, by omega, .inl rfl, by simp [choose, Sem.run, Question.forced, hf]⟩
        · exact ⟨_, w.drew, Nat.mod_lt _ (by omega), .inr rfl, by
            simp only [choose, Sem.run, Question.forced, decide_eq_true_eq, hf, if_false, Question.cut]
            rfl⟩
      obtain ⟨i, w1, hi, hw1, hc⟩ := hch
      obtain ⟨j, hj, hej, hns⟩ := mem (e := (leftOf es seen.toArray)[i]) (by simp)
      have h1' : Rel m0 w0 G E S F a w1 ∧ Fut G w G w1 ∧ w1.heap = w.heap := by
        rcases hw1 with rfl | rfl
        · exact ⟨h, Fut.refl _ _, rfl⟩
        · exact ⟨h.draw, fut_draw G w, rfl⟩
      obtain ⟨hr1, f1, hheap⟩ := h1'
      obtain ⟨r2, f2⟩ := hr1.set_obj hb hg (o' := .mapIter (some M) ks.length (seen ++ [j]).toArray ks.length) (cs' := [.ic ks vs (seen ++ [j])]) (fun _ _ _ e => by cases e) (fun W f hW => .it hW (hm.fut (f1.trans f))) rfl
      refine .inl ⟨j, by omega, by omega, hns, _, _, _, G, hrun _ _ (?_ : _ = Result.ok (.tuple #[.bool true, es[j].key, es[j].val]) _), .inl rfl, ?_, r2, f1.trans f2⟩
      · have hB1 : w1.heap[B]? = some (.mapIter (some M) ks.length seen.toArray ks.length) := by rw [hheap]; exact hB
        have hset : ∀ o', (setObj B o').run P w1 = .ok () { w1 with heap := w1.heap.setIfInBounds B o' } := fun o' => by
          simp [setObj, Sem.run, hB1]
        have hne : (leftOf es seen.toArray).isEmpty = false := by simp [Array.isEmpty, h0]
        simp only [Instr.next, Sem.run_bind, gB, gM, Result.andThen, ntf, Bool.false_eq_true, if_false, e0, e1, e2, hne, Array.append_empty, Array.empty_append, Array.size_map, hc, Array.getElem?_map, Array.getElem?_eq_getElem hi, Option.map_some, hset, hej]
        simp [h4 j hj, h2]
      · have := VR.tu (G := G) (w := { w1 with heap := w1.heap.setIfInBounds B (.mapIter (some M) ks.length (seen ++ [j]).toArray ks.length) }) (cs := [.d (.v (.bool true)), .d ks[j], .d vs[j]]) (us := [.bool true, es[j].key, es[j].val]) rfl (fun i hi hi' => by
          match i, hi with
          | 0, _ => exact .d (.v rfl)
          | 1, _ => exact .d ((h5 j (by omega) hj).fut (f1.trans f2))
          | 2, _ => exact .d ((h6 j (by omega) hj).fut (f1.trans f2)))
        exact this

/-- The entry that the last step met. -/
theorem does_entry {x : Operand} {b j : Nat} {ks vs : List D} {seen : List Nat} (ho : o.op = .entry x) (h : Rel m0 w0 G E S F a w) (hx : evalO E x = some (.iv b)) (hb : S.B b = some [.ic ks vs (seen ++ [j])]) (hk : j < ks.length) (hv : j < vs.length) :
    Does P m0 w0 G E S F a w o (.tu [.d ks[j], .d vs[j]]) S F := by
  obtain ⟨B, hg, hX⟩ := (evalO_ok h hx).iv_inv
  obtain ⟨_, _, _, k4⟩ := h.more.obj b _ B hb hg
  cases k4 with
  | it hB hm =>
    rename_i M
    obtain ⟨M', es, e1, hm0, h1, h2, h3, h4, h5, h6⟩ := hm.mp_inv
    cases e1
    have hj : j < es.size := by omega
    have gB : (getObj B).run P w = .ok (.mapIter (some M) ks.length (seen ++ [j]).toArray ks.length) w := by simp [getObj, Sem.run, hB]
    have gM : (getObj M).run P w = .ok (.map es es.size) w := MapKept.run_getObj_map h1
    have hnd : (es.toList.map (·.born)).Nodup := by
      have : es.toList.map (·.born) = List.range es.size := by
        refine List.ext_getElem (by simp) (fun i hi hi' => ?_)
        simp only [List.getElem_map, Array.getElem_toList, List.getElem_range]
        exact h4 i (by simpa using hi)
      rw [this]; exact List.nodup_range
    have hf : es.find? (·.born == j) = some es[j] := by
      have := find_born es[j] es.toList hnd (by simp)
      rw [h4 j hj, Array.find?_toList] at this
      exact this
    have hbk : (seen ++ [j]).toArray.back? = some j := by simp
    refine .quiet h (u := .tuple #[es[j].key, es[j].val]) ?_ (VR.tu2 (.d (h5 j hk hj)) (.d (h6 j hv hj)))
    simp only [execOp, ho, hX, Instr.entry]
    simp only [Sem.run_bind, gB, gM, Result.andThen, hbk, h2, bne_self_eq_false, Bool.false_eq_true, if_false, hf]
    rfl
end
end Go.Sh
