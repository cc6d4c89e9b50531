/- THE SHADOW, 6: operations one behind the other, code, loops, a function's call. Over any program. -/
import Derived.Test.YtghbkljdpikpdaaShV
set_option linter.unusedVariables false
set_option linter.unusedSimpArgs false
namespace Go.Sh
open Go.RowKit (Below)

/-- The program's own variables have what gl says. -/
def GOK (gl : Nat → Option D) (m : Nat → Nat) (w : World) : Prop := (∀ g x, gl g = some x → PV m w x (.pointer (some ⟨g, 0, none⟩))) ∧ (gl cleanAt ≠ none → MOK m w)

/-- Function f is of the program's own text. -/
def FnOk (P : Program) (f : FuncId) : Prop := ∃ fn, P.funcs[f]? = some fn ∧ (fn.name == "runtime.NumGoroutine") = false ∧ fn.body.isNone = false

/-- A call of function f with these data gives that data: whatever the memory, from new blocks alone or out of what it was given. -/
def PCall (P : Program) (gl : Nat → Option D) (f : FuncId) (args : List D) (r : D) : Prop :=
  FnOk P f ∧
  ∀ (m : Nat → Nat) (w : World) (vals : List Value), (∀ B, w.heap.size ≤ B → m B = 0) → GOK gl m w → vals.length = args.length → (∀ j (h : j < args.length) (h' : j < vals.length), PV m w args[j] vals[j]) →
    Calls P f vals.toArray w fun e w' => ∃ u m', e = .returned u ∧ PV m' w' r u ∧ (∀ B, B < w.heap.size → m' B = m B) ∧ (∀ B, w'.heap.size ≤ B → m' B = 0) ∧ Below w.heap.size w w' ∧ (gl cleanAt ≠ none → ∀ B, w.heap.size ≤ B → 0 < m' B → okB w' B (m' B))

/-- The frame's size and the like stay; the numbers that are free become fewer. -/
structure Keeps (S S' : St) : Prop where
  n : S'.n = S.n
  md : S'.md = S.md
  gl : S'.gl = S.gl
  nx : S.nx ≤ S'.nx
theorem Keeps.refl (S : St) : Keeps S S := ⟨rfl, rfl, rfl, Nat.le_refl _⟩
theorem Keeps.trans {S S' S'' : St} (h : Keeps S S') (k : Keeps S' S'') : Keeps S S'' := ⟨k.n.trans h.n, k.md.trans h.md, k.gl.trans h.gl, Nat.le_trans h.nx k.nx⟩

/-- A call of function f that may write into the shadow's variables. -/
def LCall (P : Program) (f : FuncId) (ss : List SV) (S : St) (r : SV) (S' : St) : Prop :=
  FnOk P f ∧ Keeps S S' ∧
  ∀ (m0 : Nat → Nat) (w0 : World) (G : Gh) (E : Env) (F : Nat → Prop) (a : Act) (w : World) (vals : List Value), Rel m0 w0 G E S F a w → (∀ b, S.nx ≤ b → F b) → vals.length = ss.length → (∀ j (h : j < ss.length) (h' : j < vals.length), VR G w ss[j] vals[j]) →
    Calls P f vals.toArray w fun e w' => ∃ u G', e = .returned u ∧ VR G' w' r u ∧ Rel m0 w0 G' E S' (fun b => F b ∧ ¬ (S.nx ≤ b ∧ b < S'.nx)) a w' ∧ Fut G w G' w'

section
variable {P : Program} {E E' : Env} {S S' : St}

/-! ### one operation, a call too -/
/-- Operation o, whose number is id, leads from E, S to s, S'. -/
def OpS (P : Program) (id : Nat) (E : Env) (S : St) (o : Oper) (s : SV) (S' : St) : Prop :=
  Keeps S S' ∧ ∀ (m0 : Nat → Nat) (w0 : World) (G : Gh) (F : Nat → Prop) (a : Act) (w : World), Rel m0 w0 G E S F a w → F id → (∀ b, S.nx ≤ b → F b) → ∀ (K : Act → World → Prop) (Q : Exit → Act → World → Prop),
    (∀ G' u w', VR G' w' s u → Rel m0 w0 G' E S' (fun b => F b ∧ b ≠ id ∧ ¬ (S.nx ≤ b ∧ b < S'.nx)) a w' → Fut G w G' w' → K (a.put o.dst u) w') → o.wp P a w K Q

theorem OpS.of_does {id : Nat} {o : Oper} {s : SV} (hk : Keeps S S')
    (h : ∀ (m0 : Nat → Nat) (w0 : World) (G : Gh) (F : Nat → Prop) (a : Act) (w : World), Rel m0 w0 G E S F a w → F id → Does P m0 w0 G E S F a w o s S' (fun b => F b ∧ b ≠ id)) : OpS P id E S o s S' := by
  refine ⟨hk, fun m0 w0 G F a w hr hid hF K Q hK => ?_⟩
  obtain ⟨n, u, w', G', h1, h2, h3, h4, h5⟩ := h m0 w0 G F a w hr hid
  have h4 := h4.less (F' := fun b => F b ∧ b ≠ id ∧ ¬ (S.nx ≤ b ∧ b < S'.nx)) (fun b hb => ⟨hb.1, hb.2.1⟩)
  unfold Oper.wp
  rw [h1]
  rcases h2 with rfl | ⟨rfl, rfl⟩
  · exact hK G' u w' h3 h4 h5
  · exact hK G' undef w' h3 h4 h5

theorem OpS.quiet {id : Nat} {o : Oper} {s : SV}
    (h : ∀ (m0 : Nat → Nat) (w0 : World) (G : Gh) (F : Nat → Prop) (a : Act) (w : World), Rel m0 w0 G E S F a w → Does P m0 w0 G E S F a w o s S F) : OpS P id E S o s S :=
  .of_does (Keeps.refl _) (fun m0 w0 G F a w hr hid => (h m0 w0 G F a w hr).less (fun b hb => hb.1))

/-- What operands are. -/
def argsS (E : Env) : List Operand → Option (List SV)
  | [] => some []
  | x :: r => match evalO E x, argsS E r with
    | some s, some ss => some (s :: ss)
    | _, _ => none

theorem argsS_ok {m0 : Nat → Nat} {w0 : World} {G : Gh} {F : Nat → Prop} {a : Act} {w : World} (h : Rel m0 w0 G E S F a w) : ∀ {xs : List Operand} {ss : List SV}, argsS E xs = some ss →
    (xs.map a.eval).length = ss.length ∧ ∀ j (hj : j < ss.length) (hj' : j < (xs.map a.eval).length), VR G w ss[j] (xs.map a.eval)[j]
  | [], ss, he => by
    simp only [argsS, Option.some.injEq] at he; subst he
    exact ⟨rfl, fun j hj => by simp at hj⟩
  | x :: r, ss, he => by
    simp only [argsS] at he
    split at he
    · rename_i s ss' h1 h2
      simp only [Option.some.injEq] at he; subst he
      obtain ⟨hl, hg⟩ := argsS_ok h h2
      refine ⟨by simpa using hl, fun j hj hj' => ?_⟩
      cases j with
      | zero => exact evalO_ok h h1
      | succ j => exact hg j (by simpa using hj) (by simpa using hj')
    · cases he

theorem run_enter {a : Act} {w : World} {o : Oper} {g : FuncId} {xs : List Operand} {ts : Array TypeId} (ho : o.op = .call { callee := .value (.func g), args := xs.toArray, argTypes := ts }) (hf : FnOk P g) :
    (execOp a.eval o).run P w = .ok (.enter g (xs.map a.eval).toArray) w := by
  obtain ⟨fn, hf, hname, hbody⟩ := hf
  have hname' : fn.name ≠ "runtime.NumGoroutine" := by simpa using hname
  have hbody' : fn.body ≠ none := by intro e; rw [e] at hbody; simp at hbody
  simp only [execOp, ho]
  simp [resolve, Deferred.ofValue, Act.eval, invoke, callFunc, hf]
  rw [if_neg hname', if_neg hbody']

/-- A call with data, whatever the way in which it is called. -/
theorem OpS.enter {id : Nat} {o : Oper} {g : FuncId} {ds : List D} {r : D} (hc : PCall P S.gl g ds r)
    (he : ∀ (m0 : Nat → Nat) (w0 : World) (G : Gh) (F : Nat → Prop) (a : Act) (w : World), Rel m0 w0 G E S F a w → ∃ vals : List Value, (execOp a.eval o).run P w = .ok (.enter g vals.toArray) w ∧ vals.length = ds.length ∧ ∀ j (h : j < ds.length) (h' : j < vals.length), PV G.mark w ds[j] vals[j]) :
    OpS P id E S o (.d r) S := by
  refine ⟨Keeps.refl _, fun m0 w0 G F a w hr hid hF K Q hK => ?_⟩
  obtain ⟨vals, hrun, hl, hv⟩ := he m0 w0 G F a w hr
  unfold Oper.wp
  rw [hrun, Oper.upon_enter]
  refine (hc.2 G.mark w vals hr.new ⟨hr.glob, hr.more.clean⟩ hl hv).mono ?_
  rintro e w' ⟨u, m', rfl, h1, h2, h3, h4, h5⟩
  obtain ⟨hr', f⟩ := hr.called h2 h3 h5 h4
  exact hK _ u w' (.d h1) (hr'.less (fun b hb => hb.1)) f

theorem toDs_args {G : Gh} {w : World} {ss : List SV} {ds : List D} {us : List Value} (h : toDs ss = some ds) (hl : us.length = ss.length) (hv : ∀ j (hj : j < ss.length) (hj' : j < us.length), VR G w ss[j] us[j]) :
    us.length = ds.length ∧ ∀ j (hj : j < ds.length) (hj' : j < us.length), PV G.mark w ds[j] us[j] := by
  obtain ⟨h1, h2⟩ := toDs_get h
  exact ⟨by omega, fun j hj hj' => (hv j (by omega) hj').toD (h2 j (by omega) hj)⟩

theorem OpS.call {id : Nat} {o : Oper} {g : FuncId} {xs : List Operand} {ts : Array TypeId} {ss : List SV} {ds : List D} {r : D} (ho : o.op = .call { callee := .value (.func g), args := xs.toArray, argTypes := ts }) (hs : argsS E xs = some ss) (hd : toDs ss = some ds)
    (hc : PCall P S.gl g ds r) : OpS P id E S o (.d r) S := by
  refine OpS.enter hc (fun m0 w0 G F a w hr => ?_)
  obtain ⟨h1, h2⟩ := argsS_ok hr hs
  obtain ⟨h3, h4⟩ := toDs_args hd h1 h2
  exact ⟨_, run_enter ho hc.1, h3, h4⟩

/-- A call that may write. -/
theorem OpS.lcall {id : Nat} {o : Oper} {g : FuncId} {xs : List Operand} {ts : Array TypeId} {ss : List SV} {r : SV} (ho : o.op = .call { callee := .value (.func g), args := xs.toArray, argTypes := ts }) (hs : argsS E xs = some ss)
    (hc : LCall P g ss S r S') : OpS P id E S o r S' := by
  refine ⟨hc.2.1, fun m0 w0 G F a w hr hid hF K Q hK => ?_⟩
  obtain ⟨h1, h2⟩ := argsS_ok hr hs
  unfold Oper.wp
  rw [run_enter ho hc.1, Oper.upon_enter]
  refine (hc.2.2 m0 w0 G E F a w (xs.map a.eval) hr hF h1 h2).mono ?_
  rintro e w' ⟨u, G', rfl, h1, h2, h3⟩
  exact hK _ u w' h1 (h2.less (fun b hb => ⟨hb.1, hb.2.2⟩)) h3

/-- A function's value: the function, and what goes ahead of the arguments and behind them. -/
def fnS : SV → Option (FuncId × List SV × List SV)
  | .fn (.func g) xs ys => some (g, xs, ys)
  | .d (.fn (.func g) xs ys) => some (g, xs.map .d, ys.map .d)
  | _ => none
theorem fnS_ok {G : Gh} {w : World} {s : SV} {g : FuncId} {xs ys : List SV} {u : Value} (h : fnS s = some (g, xs, ys)) (hv : VR G w s u) : ∃ us vs : List Value, u = .func (.func g) us.toArray vs.toArray ∧ us.length = xs.length ∧ vs.length = ys.length ∧
    (∀ j (h : j < xs.length) (h' : j < us.length), VR G w xs[j] us[j]) ∧ ∀ j (h : j < ys.length) (h' : j < vs.length), VR G w ys[j] vs[j] := by
  unfold fnS at h
  split at h
  · simp only [Option.some.injEq, Prod.mk.injEq] at h; obtain ⟨rfl, rfl, rfl⟩ := h
    cases hv with
    | fn hl hm hv hu => exact ⟨_, _, rfl, hl, hm, hv, hu⟩
  · rename_i g' xs' ys'
    simp only [Option.some.injEq, Prod.mk.injEq] at h; obtain ⟨rfl, rfl, rfl⟩ := h
    cases hv with
    | d hp =>
      cases hp with
      | fn hl hm hv hu =>
        refine ⟨_, _, rfl, by simpa using hl, by simpa using hm, fun j hj hj' => ?_, fun j hj hj' => ?_⟩
        · simp only [List.getElem_map]; exact .d (hv j (by simpa using hj) hj')
        · simp only [List.getElem_map]; exact .d (hu j (by simpa using hj) hj')
  · cases h
theorem run_dyn {a : Act} {w : World} {o : Oper} {g : FuncId} {x : Operand} {xs : List Operand} {ts : Array TypeId} {us vs : List Value} (ho : o.op = .call { callee := .value x, args := xs.toArray, argTypes := ts }) (hx : a.eval x = .func (.func g) us.toArray vs.toArray) (hf : FnOk P g) :
    (execOp a.eval o).run P w = .ok (.enter g (us ++ xs.map a.eval ++ vs).toArray) w := by
  obtain ⟨fn, hf, hname, hbody⟩ := hf
  have hname' : fn.name ≠ "runtime.NumGoroutine" := by simpa using hname
  have hbody' : fn.body ≠ none := by intro e; rw [e] at hbody; simp at hbody
  simp only [execOp, ho]
  simp [resolve, Deferred.ofValue, hx, invoke, callFunc, hf]
  rw [if_neg hname', if_neg hbody']
theorem dyn_args {G : Gh} {w : World} {xs ss ys : List SV} {us ws vs : List Value} (h1 : us.length = xs.length) (h2 : ws.length = ss.length) (h3 : vs.length = ys.length) (k1 : ∀ j (h : j < xs.length) (h' : j < us.length), VR G w xs[j] us[j])
    (k2 : ∀ j (h : j < ss.length) (h' : j < ws.length), VR G w ss[j] ws[j]) (k3 : ∀ j (h : j < ys.length) (h' : j < vs.length), VR G w ys[j] vs[j]) :
    (us ++ ws ++ vs).length = (xs ++ ss ++ ys).length ∧ ∀ j (h : j < (xs ++ ss ++ ys).length) (h' : j < (us ++ ws ++ vs).length), VR G w (xs ++ ss ++ ys)[j] (us ++ ws ++ vs)[j] := by
  have both : ∀ {as bs : List SV} {cs ds : List Value}, cs.length = as.length → ds.length = bs.length → (∀ j (h : j < as.length) (h' : j < cs.length), VR G w as[j] cs[j]) → (∀ j (h : j < bs.length) (h' : j < ds.length), VR G w bs[j] ds[j]) →
      ∀ j (h : j < (as ++ bs).length) (h' : j < (cs ++ ds).length), VR G w (as ++ bs)[j] (cs ++ ds)[j] := by
    intro as bs cs ds e1 e2 q1 q2 j hj hj'
    rcases Nat.lt_or_ge j as.length with h | h
    · rw [List.getElem_append_left h, List.getElem_append_left (by omega)]; exact q1 j h _
    · simp only [List.length_append] at hj hj'
      rw [List.getElem_append_right h, List.getElem_append_right (by omega)]
      have := q2 (j - as.length) (by omega) (by omega)
      simpa [e1] using this
  exact ⟨by simp [h1, h2, h3], both (by simp [h1, h2]) h3 (both h1 h2 k1 k2) k3⟩
/-- A call of a function's value, with data. -/
theorem OpS.dyn {id : Nat} {o : Oper} {g : FuncId} {x : Operand} {xs : List Operand} {ts : Array TypeId} {s : SV} {fs cs ss : List SV} {ds : List D} {r : D} (ho : o.op = .call { callee := .value x, args := xs.toArray, argTypes := ts }) (hx : evalO E x = some s) (hf : fnS s = some (g, fs, cs)) (hs : argsS E xs = some ss)
    (hd : toDs (fs ++ ss ++ cs) = some ds) (hc : PCall P S.gl g ds r) : OpS P id E S o (.d r) S := by
  refine OpS.enter hc (fun m0 w0 G F a w hr => ?_)
  obtain ⟨us, vs, e, l1, l2, k1, k2⟩ := fnS_ok hf (evalO_ok hr hx)
  obtain ⟨h1, h2⟩ := argsS_ok hr hs
  obtain ⟨g1, g2⟩ := dyn_args l1 h1 l2 k1 h2 k2
  obtain ⟨h3, h4⟩ := toDs_args hd g1 g2
  exact ⟨_, run_dyn ho e hc.1, h3, h4⟩
theorem OpS.dynL {id : Nat} {o : Oper} {g : FuncId} {x : Operand} {xs : List Operand} {ts : Array TypeId} {s : SV} {fs cs ss : List SV} {r : SV} (ho : o.op = .call { callee := .value x, args := xs.toArray, argTypes := ts }) (hx : evalO E x = some s) (hf : fnS s = some (g, fs, cs)) (hs : argsS E xs = some ss)
    (hc : LCall P g (fs ++ ss ++ cs) S r S') : OpS P id E S o r S' := by
  refine ⟨hc.2.1, fun m0 w0 G F a w hr hid hF K Q hK => ?_⟩
  obtain ⟨us, vs, e, l1, l2, k1, k2⟩ := fnS_ok hf (evalO_ok hr hx)
  obtain ⟨h1, h2⟩ := argsS_ok hr hs
  obtain ⟨g1, g2⟩ := dyn_args l1 h1 l2 k1 h2 k2
  unfold Oper.wp
  rw [run_dyn ho e hc.1, Oper.upon_enter]
  refine (hc.2.2 m0 w0 G E F a w _ hr hF g1 g2).mono ?_
  rintro e w' ⟨u, G', rfl, h1, h2, h3⟩
  exact hK _ u w' h1 (h2.less (fun b hb => ⟨hb.1, hb.2.2⟩)) h3

/-- The method of a type, of a receiver that is a value. -/
def methOf (P : Program) (t : TypeId) (name : String) : Option FuncId :=
  match P.info? t with
  | some i => match i.methods.find? (·.name == name) with
    | some m => match m.path.toList, m.func, P.underlying t with
      | _, _, some (.pointer _) => none
      | [], some (f, false), some _ => some f
      | _, _, _ => none
    | none => none
  | none => none

theorem run_method {w : World} {t : TypeId} {name : String} {f : FuncId} (h : methOf P t name = some f) (fuel : Nat) (v : Value) : (method (fuel + 1) t v name).run P w = .ok (f, v) w := by
  unfold methOf at h
  split at h
  · rename_i i hi
    split at h
    · rename_i m hm
      split at h
      · cases h
      · rename_i g d hne hp hfn hu
        simp only [Option.some.injEq] at h; subst h
        have hr : ∀ wr, (receiverAt t (.val v) false wr).run P w = .ok v w := by
          intro wr
          unfold receiverAt
          rw [Sem.run_bind, run_under hu]
          simp only [Result.andThen_ok]
          cases d <;> first | exact absurd hu (hne _) | rfl
        simp [method, typeInfo, hi, hm, hp, follow, hfn, hr]
      · cases h
    · cases h
  · cases h

/-- A call of a method behind an interface. -/
theorem OpS.invoke {id : Nat} {o : Oper} {x : Operand} {name : String} {xs : List Operand} {ts : Array TypeId} {t : TypeId} {y : D} {ss : List SV} {ds : List D} {g : FuncId} {r : D} (ho : o.op = .call { callee := .invoke x name, args := xs.toArray, argTypes := ts }) (hx : evalO E x = some (.d (.ifc t y)))
    (hm : methOf P t name = some g) (hs : argsS E xs = some ss) (hd : toDs ss = some ds) (hc : PCall P S.gl g (y :: ds) r) : OpS P id E S o (.d r) S := by
  refine OpS.enter hc (fun m0 w0 G F a w hr => ?_)
  obtain ⟨h1, h2⟩ := argsS_ok hr hs
  obtain ⟨h3, h4⟩ := toDs_args hd h1 h2
  obtain ⟨u', hX, hu⟩ := ifcS_ok (s := .d (.ifc t y)) rfl (evalO_ok hr hx)
  refine ⟨u' :: xs.map a.eval, ?_, by simpa using h3, fun j hj hj' => ?_⟩
  · obtain ⟨fn, hf, hname, hbody⟩ := hc.1
    have hname' : fn.name ≠ "runtime.NumGoroutine" := by simpa using hname
    have hbody' : fn.body ≠ none := by intro e; rw [e] at hbody; simp at hbody
    have hme := run_method (P := P) (w := w) hm (P.types.size + 99) u'
    simp only [execOp, ho]
    simp [resolve, hX, Go.invoke, callMethod, Made.depth, hme, callFunc, hf]
    rw [if_neg hname', if_neg hbody']
    rw [List.take_of_length_le (by simp)]
  · cases j with
    | zero =>
      cases hu with
      | d hp => exact hp
    | succ j => exact h4 j (by simpa using hj) (by simpa using hj')

/-! ### operations one behind the other -/
/-- The operations l of the region ops, the first of which is number i, lead from E, S into Q. -/
def LS (P : Program) (ops : Array Oper) (base i : Nat) (l : List Oper) (E : Env) (S : St) (Q : Env → St → Prop) : Prop :=
  i + l.length ≤ ops.size → base + ops.size ≤ S.nx →
  ∀ (m0 : Nat → Nat) (w0 : World) (G : Gh) (a : Act) (w : World) (H : Nat → Prop), (∀ b, H b → b < base) → Rel m0 w0 G E S (fun b => (base + i ≤ b ∧ b < base + ops.size) ∨ S.nx ≤ b ∨ H b) a w → ∀ QQ : Exit → Act → World → Prop,
    (∀ G' E' S' a' w', Q E' S' → Keeps S S' → Rel m0 w0 G' E' S' (fun b => S'.nx ≤ b ∨ H b) a' w' → Fut G w G' w' → QQ .normal a' w') → wpList P ops QQ l a w

theorem LS.nil {ops : Array Oper} {base i : Nat} {Q : Env → St → Prop} (h : Q E S) : LS P ops base i [] E S Q :=
  fun _ _ m0 w0 G a w H hH hr QQ hQ => hQ G E S a w h (Keeps.refl _) (hr.less fun b hb => .inr hb) (Fut.refl _ _)

/-- Is the operation wanted? -/
def wantS (ops : Array Oper) (E : Env) (o : Oper) : Option Bool :=
  match o.guard with
  | none => some true
  | some (j, want) => match (ops[j]?).bind (·.dst) with
    | some d => match evalO E (.tmp d) with
      | some (.d (.v (.bool b))) => some (b == want)
      | some (.d (.v (.tuple _))) => some false
      | _ => none
    | none => none

theorem wantS_ok {m0 : Nat → Nat} {w0 : World} {G : Gh} {F : Nat → Prop} {a : Act} {w : World} {ops : Array Oper} {o : Oper} {b : Bool} (h : Rel m0 w0 G E S F a w) (hw : wantS ops E o = some b) : Region.wanted o (yielded ops a.tmps) = b := by
  unfold wantS at hw
  unfold Region.wanted
  split at hw
  · rename_i hg; rw [hg]; simp only [Option.some.injEq] at hw; exact hw
  · rename_i j want hg
    rw [hg]
    simp only
    split at hw
    · rename_i d hd
      unfold yielded
      rw [hd]
      simp only [Option.bind_some]
      split at hw
      · rename_i c hE
        simp only [Option.some.injEq] at hw; subst hw
        have : a.tmps.getD d undef = _ := evalO_v h hE
        simp only [Array.getD_eq_getD_getElem?] at this
        cases hx : a.tmps[d]? with
        | none => rw [hx] at this; simp [undef] at this
        | some x => rw [hx] at this; simp only [Option.getD_some] at this; subst this; cases c <;> cases want <;> rfl
      · rename_i vs hE
        simp only [Option.some.injEq] at hw; subst hw
        have : a.tmps.getD d undef = _ := evalO_v h hE
        simp only [Array.getD_eq_getD_getElem?] at this
        cases hx : a.tmps[d]? with
        | none => rfl
        | some x => rw [hx] at this; simp only [Option.getD_some] at this; subst this; rfl
      · cases hw
    · cases hw

theorem LS.cons {ops : Array Oper} {base i : Nat} {o : Oper} {l : List Oper} {s : SV} {Q : Env → St → Prop} (hw : wantS ops E o = some true) (hd : ∀ d, o.dst = some d → d < S.n) (hs : OpS P (base + i) E S o s S')
    (h : LS P ops base (i + 1) l (E.put o.dst s) S' Q) : LS P ops base i (o :: l) E S Q := by
  intro hlen hnx m0 w0 G a w H hH hr QQ hQ
  simp only [List.length_cons] at hlen
  have hk := hs.1.nx
  unfold wpList
  rw [if_pos (wantS_ok hr hw)]
  refine .inl (hs.2 m0 w0 G _ a w hr (.inl ⟨Nat.le_refl _, by omega⟩) (fun b hb => .inr (.inl hb)) _ _ (fun G' u w' hu hr' f => ?_))
  refine h (by omega) (by omega) m0 w0 G' _ w' H hH ((hr'.less (fun b hb => ?_)).put (fun k hk => by rw [hs.1.n]; exact hd k hk) hu) QQ (fun G'' E'' S'' a'' w'' hq hn hr'' f' => ?_)
  · rcases hb with hb | hb | hb
    · exact ⟨.inl ⟨by omega, hb.2⟩, by omega, by omega⟩
    · exact ⟨.inr (.inl (by omega)), by omega, by omega⟩
    · have := hH b hb
      exact ⟨.inr (.inr hb), by omega, by omega⟩
  · exact hQ G'' E'' S'' a'' w'' hq (hs.1.trans hn) hr'' (f.trans f')

/-- An operation that may come to several things, each of which Q allows. -/
def OpX (P : Program) (id : Nat) (E : Env) (S : St) (o : Oper) (Q : SV → Eff → Prop) : Prop :=
  ∀ (m0 : Nat → Nat) (w0 : World) (G : Gh) (F : Nat → Prop) (a : Act) (w : World), Rel m0 w0 G E S F a w → F id → ∃ s e, Q s e ∧ Does P m0 w0 G E S F a w o s (S.app id e) (fun b => F b ∧ b ≠ id)

theorem app_keeps (id : Nat) (e : Eff) : Keeps S (S.app id e) := by cases e <;> exact ⟨rfl, rfl, rfl, Nat.le_refl _⟩

theorem LS.consX {ops : Array Oper} {base i : Nat} {o : Oper} {l : List Oper} {Q : Env → St → Prop} {R : SV → Eff → Prop} (hw : wantS ops E o = some true) (hd : ∀ d, o.dst = some d → d < S.n) (hs : OpX P (base + i) E S o R)
    (h : ∀ s e, R s e → LS P ops base (i + 1) l (E.put o.dst s) (S.app (base + i) e) Q) : LS P ops base i (o :: l) E S Q := by
  intro hlen hnx m0 w0 G a w H hH hr QQ hQ
  simp only [List.length_cons] at hlen
  unfold wpList
  rw [if_pos (wantS_ok hr hw)]
  refine .inl ?_
  obtain ⟨s, e, hR, n, u, w', G', h1, h2, h3, h4, h5⟩ := hs m0 w0 G _ a w hr (.inl ⟨Nat.le_refl _, by omega⟩)
  have hk := app_keeps (S := S) (base + i) e
  have step : wpList P ops QQ l (a.put o.dst u) w' := by
    refine h s e hR (by omega) (by have := hk.nx; omega) m0 w0 G' _ w' H hH ((h4.less (fun b hb => ?_)).put (fun k hk' => by rw [hk.n]; exact hd k hk') h3) QQ (fun G'' E'' S'' a'' w'' hq hn hr'' f' => hQ G'' E'' S'' a'' w'' hq (hk.trans hn) hr'' (h5.trans f'))
    rcases hb with hb | hb | hb
    · exact ⟨.inl ⟨by omega, hb.2⟩, by omega⟩
    · exact ⟨.inr (.inl (by have := hk.nx; omega)), by have := hk.nx; omega⟩
    · have := hH b hb
      exact ⟨.inr (.inr hb), by omega⟩
  unfold Oper.wp
  rw [h1]
  rcases h2 with rfl | ⟨rfl, rfl⟩
  · exact step
  · exact step

theorem LS.skip {ops : Array Oper} {base i : Nat} {o : Oper} {l : List Oper} {Q : Env → St → Prop} (hw : wantS ops E o = some false) (hd : ∀ d, o.dst = some d → d < S.n)
    (h : LS P ops base (i + 1) l (E.put o.dst (.d (.v undef))) S Q) : LS P ops base i (o :: l) E S Q := by
  intro hlen hnx m0 w0 G a w H hH hr QQ hQ
  simp only [List.length_cons] at hlen
  unfold wpList
  rw [if_neg (by rw [wantS_ok hr hw]; simp)]
  refine h (by omega) hnx m0 w0 G _ w H hH ((hr.less (fun b hb => ?_)).put hd (.d (.v rfl))) QQ hQ
  rcases hb with hb | hb
  · exact .inl ⟨by omega, hb.2⟩
  · exact .inr hb

/-! ### code -/
/-- Code c leads from E, S into Q. -/
def CS (P : Program) (c : Code) (E : Env) (S : St) (Q : Exit → Env → St → Prop) : Prop :=
  ∀ (m0 : Nat → Nat) (w0 : World) (G : Gh) (a : Act) (w : World) (H : Nat → Prop), (∀ b, H b → b < S.nx) → Rel m0 w0 G E S (fun b => S.nx ≤ b ∨ H b) a w → ∀ QQ : Exit → Act → World → Prop,
    (∀ ex G' E' S' a' w', Q ex E' S' → Keeps S S' → Rel m0 w0 G' E' S' (fun b => S'.nx ≤ b ∨ H b) a' w' → Fut G w G' w' → QQ ex a' w') → c.wp P QQ a w

theorem CS.mono {c : Code} {Q Q' : Exit → Env → St → Prop} (h : CS P c E S Q) (hq : ∀ ex E S, Q ex E S → Q' ex E S) : CS P c E S Q' :=
  fun m0 w0 G a w H hH hr QQ hQ => h m0 w0 G a w H hH hr QQ (fun ex G' E' S' a' w' q => hQ ex G' E' S' a' w' (hq _ _ _ q))

theorem CS.skip {Q : Exit → Env → St → Prop} (h : Q .normal E S) : CS P .skip E S Q := fun m0 w0 G a w H hH hr QQ hQ => wp_skip (hQ _ _ _ _ _ _ h (Keeps.refl _) hr (Fut.refl _ _))
theorem CS.label {l : Nat} {Q : Exit → Env → St → Prop} (h : Q .normal E S) : CS P (.label l) E S Q := fun m0 w0 G a w H hH hr QQ hQ => wp_label (hQ _ _ _ _ _ _ h (Keeps.refl _) hr (Fut.refl _ _))
theorem CS.exit {id : Nat} {Q : Exit → Env → St → Prop} (h : Q (.exit id) E S) : CS P (.exit id) E S Q := fun m0 w0 G a w H hH hr QQ hQ => wp_exit (hQ _ _ _ _ _ _ h (Keeps.refl _) hr (Fut.refl _ _))
theorem CS.ret {Q : Exit → Env → St → Prop} (h : Q .ret E S) : CS P .ret E S Q := fun m0 w0 G a w H hH hr QQ hQ => wp_ret (hQ _ _ _ _ _ _ h (Keeps.refl _) hr (Fut.refl _ _))

/-- What stands behind takes over where code ends. -/
def Then (N : Env → St → Prop) (Q : Exit → Env → St → Prop) : Exit → Env → St → Prop
  | .normal, E, S => N E S
  | e, E, S => Q e E S

theorem CS.seq {x y : Code} {Q : Exit → Env → St → Prop} (h : CS P x E S (Then (fun E' S' => CS P y E' S' Q) Q)) : CS P (.seq x y) E S Q := by
  intro m0 w0 G a w H hH hr QQ hQ
  refine wp_seq (h m0 w0 G a w H hH hr _ (fun ex G' E' S' a' w' q hn hr' f => ?_))
  cases ex with
  | normal => exact q m0 w0 G' a' w' H (fun b hb => Nat.lt_of_lt_of_le (hH b hb) hn.nx) hr' QQ (fun ex G'' E'' S'' a'' w'' q' hn' hr'' f' => hQ ex G'' E'' S'' a'' w'' q' (hn.trans hn') hr'' (f.trans f'))
  | _ => exact hQ _ G' E' S' a' w' q hn hr' f

theorem CS.cond {c : Operand} {x y : Code} {b : Bool} {Q : Exit → Env → St → Prop} (hc : evalO E c = some (.d (.v (.bool b)))) (ht : b = true → CS P x E S Q) (hf : b = false → CS P y E S Q) : CS P (.cond c x y) E S Q := by
  intro m0 w0 G a w H hH hr QQ hQ
  refine wp_cond_split (evalO_v hr hc) (fun h => ht h m0 w0 G a w H hH hr QQ hQ) (fun h => hf h m0 w0 G a w H hH hr QQ hQ)

def InBlock (id : Nat) (Q : Exit → Env → St → Prop) : Exit → Env → St → Prop
  | .exit id', E, S => if id' = id then Q .normal E S else Q (.exit id') E S
  | e, E, S => Q e E S

theorem CS.block {id : Nat} {c : Code} {Q : Exit → Env → St → Prop} (h : CS P c E S (InBlock id Q)) : CS P (.block id c) E S Q := by
  intro m0 w0 G a w H hH hr QQ hQ
  refine wp_block (h m0 w0 G a w H hH hr _ (fun ex G' E' S' a' w' q hn hr' f => ?_))
  cases ex with
  | exit id' =>
    simp only [InBlock] at q
    simp only [Exit.inBlock]
    split at q
    · rename_i e; rw [if_pos e]; exact hQ _ G' E' S' a' w' q hn hr' f
    · rename_i e; rw [if_neg e]; exact hQ _ G' E' S' a' w' q hn hr' f
  | _ => exact hQ _ G' E' S' a' w' q hn hr' f

/-- A loop: I holds at each round's head, and each round lowers the measure. -/
theorem CS.loop {c : Code} {Q : Exit → Env → St → Prop} (I : Env → St → Prop) (μ : Env → St → Nat) (h0 : I E S)
    (round : ∀ E1 S1, Keeps S S1 → I E1 S1 → CS P c E1 S1 (Then (fun E' S' => I E' S' ∧ μ E' S' < μ E1 S1) Q)) : CS P (.loop c) E S Q := by
  intro m0 w0 G a w H hH hr QQ hQ
  intro b k cs
  have key : ∀ n (E1 : Env) (S1 : St) G1 a1 w1, μ E1 S1 = n → I E1 S1 → Keeps S S1 → Rel m0 w0 G1 E1 S1 (fun b => S1.nx ≤ b ∨ H b) a1 w1 → Fut G w G1 w1 →
      ∃ e a' w', QQ e a' w' ∧ Arrives P (lone (b.at a1 (.code c :: .inLoop c :: k)) cs w1) b k cs e a' w' := by
    intro n
    induction n using Nat.strongRecOn with
    | _ n ih =>
      intro E1 S1 G1 a1 w1 hμ hI hn1 hr1 f1
      have hround := round E1 S1 hn1 hI m0 w0 G1 a1 w1 H (fun b hb => Nat.lt_of_lt_of_le (hH b hb) hn1.nx) hr1 (fun ex a' w' => match ex with
        | .normal => ∃ E' S' G', I E' S' ∧ μ E' S' < μ E1 S1 ∧ Keeps S S' ∧ Rel m0 w0 G' E' S' (fun b => S'.nx ≤ b ∨ H b) a' w' ∧ Fut G w G' w'
        | ex => QQ ex a' w') (fun ex G' E' S' a' w' q hn hr' f => by
        cases ex with
        | normal => exact ⟨E', S', G', q.1, q.2, hn1.trans hn, hr', f1.trans f⟩
        | _ => exact hQ _ G' E' S' a' w' q (hn1.trans hn) hr' (f1.trans f))
      obtain ⟨e, a₁, w₁, hq, harr⟩ := hround b (.inLoop c :: k) cs
      cases e with
      | normal =>
        obtain ⟨E', S', G', q1, q2, q3, q4, q5⟩ := hq
        obtain ⟨e2, a2, w2, hq2, harr2⟩ := ih _ (by rw [← hμ]; exact q2) E' S' G' a₁ w₁ rfl q1 q3 q4 q5
        exact ⟨e2, a2, w2, hq2, .of_steps (Steps.trans harr (.one step_inLoop)) harr2⟩
      | exit id => exact ⟨_, a₁, w₁, hq, .pass (x := .inLoop c) rfl (fun _ _ => .inl (by simp)) harr⟩
      | goto l => exact ⟨_, a₁, w₁, hq, .pass (x := .inLoop c) rfl (fun _ _ => .inl (by simp)) harr⟩
      | ret => exact ⟨_, a₁, w₁, hq, .pass (x := .inLoop c) rfl (fun _ _ => .inl (by simp)) harr⟩
      | panic ch => exact ⟨_, a₁, w₁, hq, .pass (x := .inLoop c) rfl (fun _ _ => .inl (by simp)) harr⟩
      | outgrown => exact ⟨_, a₁, w₁, hq, .pass (x := .inLoop c) rfl (fun _ _ => .inl (by simp)) harr⟩
  obtain ⟨e, a', w', hq, harr⟩ := key _ E S G a w rfl h0 (Keeps.refl _) hr (Fut.refl _ _)
  exact ⟨e, a', w', hq, .of_steps (.one step_loop) harr⟩

/-- The numbers of a region's operations are used up. -/
def St.adv (S : St) (k : Nat) : St := { S with nx := S.nx + k }

theorem Rel.adv {m0 : Nat → Nat} {w0 : World} {G : Gh} {F : Nat → Prop} {a : Act} {w : World} (h : Rel m0 w0 G E S F a w) (k : Nat) : Rel m0 w0 G E (S.adv k) F a w :=
  ⟨h.env, h.size, h.few, h.box, h.inj, h.tip, h.tinj, h.tlt, h.tbox, h.fresh, h.new, h.low, h.below, h.defers, h.glob, h.more.keep (Fut.refl _ _) (.refl _) (fun _ _ _ h _ => h) rfl (fun _ _ _ => rfl) rfl (fun _ h => h) rfl⟩

/-- A region whose order is the text's. -/
theorem CS.region {id : Nat} {ops : List Oper} {Q : Exit → Env → St → Prop} (h : LS P ops.toArray S.nx 0 ops E (S.adv ops.length) (fun E' S' => Q .normal E' S')) : CS P (.region id ops.toArray false) E S Q := by
  intro m0 w0 G a w H hH hr QQ hQ
  refine wp_region_lit (h (by simp) (by simp [St.adv]) m0 w0 G a w H hH ((hr.adv ops.length).less (fun b hb => by simp [St.adv] at hb; rcases hb with hb | hb | hb <;> first | exact .inr hb | exact .inl (by omega))) QQ (fun G' E' S' a' w' q hn hr' f => ?_))
  exact hQ .normal G' E' S' a' w' q ⟨hn.n, hn.md, hn.gl, by have := hn.nx; simp [St.adv] at this; omega⟩ hr' f

/-! ### a function -/
/-- What a function gives back: of slots, and of variables. -/
def resOne (P : Program) (E : Env) (S : St) : ResultVar → Option SV
  | .tmp t => evalO E (.tmp t)
  | .cell t T => match evalO E (.tmp t) with
    | some (.op b off) => match S.B b with
      | some cs => loadS P T cs off
      | none => none
    | _ => none
def resList (P : Program) (E : Env) (S : St) : List ResultVar → Option (List SV)
  | [] => some []
  | x :: r => match resOne P E S x, resList P E S r with
    | some s, some ss => some (s :: ss)
    | _, _ => none
def resS (P : Program) (E : Env) (S : St) (rs : List ResultVar) : Option SV :=
  match resList P E S rs with
  | some [s] => some s
  | some ss => some (.tu ss)
  | none => none

/-- The machine's own: one result. -/
def resM (a : Act) : ResultVar → Sem Value
  | .tmp t => Pure.pure (a.tmps.getD t undef)
  | .cell t T => do loadVar T (← asAddr (a.tmps.getD t undef))

theorem resOne_ok {m0 : Nat → Nat} {w0 : World} {G : Gh} {F : Nat → Prop} {a : Act} {w : World} (h : Rel m0 w0 G E S F a w) {x : ResultVar} {s : SV} (hs : resOne P E S x = some s) :
    ∃ u, (resM a x).run P w = .ok u w ∧ VR G w s u := by
  cases x with
  | tmp t => exact ⟨_, rfl, evalO_ok h (show evalO E (.tmp t) = some s from hs)⟩
  | cell t T =>
    simp only [resOne] at hs
    split at hs
    · rename_i b off hE
      split at hs
      · rename_i cs hb
        obtain ⟨B', hg, hx⟩ := (evalO_ok h hE).op_inv
        have hx : a.tmps.getD t undef = _ := hx
        obtain ⟨B, us, T', h1, h2, h3, h4, h5, hu0, h6⟩ := h.box b cs hb (h.boxOf hb hg)
        obtain rfl : B = B' := Option.some.inj (h1.symm.trans hg)
        have hus : ∀ j, j < cs.length → w.cell? ⟨B, 0 + j, none⟩ = some (us.getD j undef) := fun j hj => by
          rw [Nat.zero_add, cell_of_heap h2, Array.getElem?_eq_getElem (by omega)]
          simp [Array.getD_eq_getD_getElem?, Array.getElem?_eq_getElem (show j < us.size by omega)]
        obtain ⟨u, g1, g2⟩ := loadG_ok (w := w) (C := fun x => SV.cell x = true) (R := VR G w) (fun _ _ a b c => .ag a b c) (us := fun j => us.getD j undef) hs hus (fun j hj => (h6 j hj (by omega)).1) (fun j hj => by
          have := (h6 j hj (by omega)).2
          simpa [Array.getD_eq_getD_getElem?, Array.getElem?_eq_getElem (show j < us.size by omega)] using this)
        rw [Nat.zero_add] at g1
        refine ⟨u, ?_, g2⟩
        simp only [resM, hx]
        simp [asAddr, g1]
      · cases hs
    · cases hs

theorem resList_ok {m0 : Nat → Nat} {w0 : World} {G : Gh} {F : Nat → Prop} {a : Act} {w : World} (h : Rel m0 w0 G E S F a w) : ∀ {xs : List ResultVar} {ss : List SV}, resList P E S xs = some ss →
    ∃ us, (xs.mapM (resM a)).run P w = .ok us w ∧ us.length = ss.length ∧ ∀ j (hj : j < ss.length) (hj' : j < us.length), VR G w ss[j] us[j]
  | [], ss, hs => by
    simp only [resList, Option.some.injEq] at hs; subst hs
    exact ⟨[], rfl, rfl, fun j hj => by simp at hj⟩
  | x :: r, ss, hs => by
    simp only [resList] at hs
    split at hs
    · rename_i s ss' h1 h2
      simp only [Option.some.injEq] at hs; subst hs
      obtain ⟨u, g1, g2⟩ := resOne_ok h h1
      obtain ⟨us, k1, k2, k3⟩ := resList_ok h h2
      refine ⟨u :: us, ?_, by simp [k2], fun j hj hj' => ?_⟩
      · rw [List.mapM_cons]
        simp only [Sem.run_bind]
        rw [g1]
        simp only [Result.andThen_ok]
        rw [k1]
        rfl
      · cases j with
        | zero => exact g2
        | succ j => exact k3 j (by simpa using hj) (by simpa using hj')
    · cases hs

theorem resS_ok {m0 : Nat → Nat} {w0 : World} {G : Gh} {F : Nat → Prop} {a : Act} {w : World} (h : Rel m0 w0 G E S F a w) {fn : Func} {s : SV} (hs : resS P E S fn.results.toList = some s) :
    ∃ u, (results fn a.tmps).run P w = .ok u w ∧ VR G w s u := by
  unfold resS at hs
  have arr : ∀ us : List Value, (fn.results.toList.mapM (resM a)).run P w = .ok us w →
      (results fn a.tmps).run P w = .ok (if h : us.toArray.size = 1 then us.toArray[0] else .tuple us.toArray) w := by
    intro us hu
    have e : results fn a.tmps = (do let vs ← fn.results.mapM (resM a); Pure.pure (if h : vs.size = 1 then vs[0] else .tuple vs)) := by
      unfold results
      congr 1
    rw [e, Array.mapM_eq_mapM_toList]
    simp only [Sem.run_bind, Sem.run_map]
    rw [hu]
    rfl
  split at hs
  · rename_i s' hl
    simp only [Option.some.injEq] at hs; subst hs
    obtain ⟨us, h1, h2, h3⟩ := resList_ok h hl
    match us, h2 with
    | [u], _ => exact ⟨u, by rw [arr _ h1]; rfl, h3 0 (by simp) (by simp)⟩
  · rename_i ss hne hl
    simp only [Option.some.injEq] at hs; subst hs
    obtain ⟨us, h1, h2, h3⟩ := resList_ok h hl
    refine ⟨.tuple us.toArray, ?_, .tu h2 h3⟩
    rw [arr _ h1, dif_neg]
    intro e
    have : ss.length = 1 := by rw [← h2]; simpa using e
    match ss, this with
    | [x], _ => exact hne x rfl
  · cases hs

/-! ### at the end all that is left of the call's own stays as it is -/
def mapO {α β : Type} (f : α → Option β) : List α → Option (List β)
  | [] => some []
  | x :: r => match f x, mapO f r with
    | some y, some ys => some (y :: ys)
    | _, _ => none
theorem mapO_get {α β : Type} {f : α → Option β} : ∀ {l : List α} {r : List β}, mapO f l = some r → r.length = l.length ∧ ∀ j (h : j < l.length) (h' : j < r.length), f l[j] = some r[j]
  | [], r, h => by simp only [mapO, Option.some.injEq] at h; subst h; exact ⟨rfl, fun j hj => by simp at hj⟩
  | x :: l, r, h => by
    simp only [mapO] at h
    split at h
    · rename_i y ys h1 h2
      simp only [Option.some.injEq] at h; subst h
      obtain ⟨a, b⟩ := mapO_get h2
      refine ⟨by simp [a], fun j hj hj' => ?_⟩
      cases j with
      | zero => exact h1
      | succ j => exact b j (by simpa using hj) (by simpa using hj')
    · cases h
theorem mapO_map {α β γ : Type} {f : β → Option γ} {g : α → β} {k : α → γ} (h : ∀ x, f (g x) = some (k x)) : ∀ l : List α, mapO f (l.map g) = some (l.map k)
  | [] => rfl
  | x :: l => by simp only [List.map_cons, mapO, h, mapO_map h l]

/-- The data that a value is, once all the variables stay as they are. -/
def frz (B : Nat → Option (List SV)) : Nat → SV → Option D
  | 0, _ => none
  | k + 1, s => match s with
    | .d x => some x
    | .fl cs n => some (.ps cs n)
    | .tp _ _ cs n => some (.ps cs n)
    | .op b off => match B b with
      | some cs => (mapO (frz B k) cs).map fun ds => .pp ds off
      | none => none
    | .os b off n => match B b with
      | some cs => (mapO (frz B k) cs).map fun ds => .ps (ds.drop off) n
      | none => none
    | .sk b n _ => match B b with
      | some cs => (mapO (frz B k) cs).map fun ds => .ps ds n
      | none => none
    | .mv b => match B b with
      | some [.mc ks vs] => (mapO (frz B k) vs).map (.mp ks)
      | _ => none
    | .iv _ | .mc _ _ | .ic _ _ _ => none
    | .ag cs => (mapO (frz B k) cs).map .agg
    | .tu cs => (mapO (frz B k) cs).map .tup
    | .fc t x => (frz B k x).map (.ifc t)
    | .fn f first caps => match mapO (frz B k) first, mapO (frz B k) caps with
      | some xs, some ys => some (.fn f xs ys)
      | _, _ => none

theorem frz_cell {B : Nat → Option (List SV)} {k : Nat} {s : SV} {x : D} (h : frz B k s = some x) (hc : s.cell = true) : x.cell = true := by
  cases k with
  | zero => cases h
  | succ k =>
    cases s <;> simp only [frz] at h
    case d y => simp only [Option.some.injEq] at h; subst h; exact hc
    case fl => simp only [Option.some.injEq] at h; subst h; rfl
    case tp => simp only [Option.some.injEq] at h; subst h; rfl
    case op => split at h
               · simp only [Option.map_eq_some_iff] at h; obtain ⟨_, _, rfl⟩ := h; rfl
               · cases h
    case os => split at h
               · simp only [Option.map_eq_some_iff] at h; obtain ⟨_, _, rfl⟩ := h; rfl
               · cases h
    case sk => split at h
               · simp only [Option.map_eq_some_iff] at h; obtain ⟨_, _, rfl⟩ := h; rfl
               · cases h
    case mv => split at h
               · simp only [Option.map_eq_some_iff] at h; obtain ⟨_, _, rfl⟩ := h; rfl
               · cases h
    case iv => cases h
    case mc => cases h
    case ic => cases h
    case ag => simp [SV.cell] at hc
    case tu => simp [SV.cell] at hc
    case fc => simp only [Option.map_eq_some_iff] at h; obtain ⟨_, _, rfl⟩ := h; rfl
    case fn => split at h
               · simp only [Option.some.injEq] at h; subst h; rfl
               · cases h

open Classical in
/-- The marks with all the variables' blocks. -/
noncomputable def frzM (S : St) (G : Gh) (X : Nat) : Nat := if h : ∃ b cs, S.B b = some cs ∧ G.box b = some X ∧ G.obj b = none then h.choose_spec.choose.length else if ∃ b ks vs, S.B b = some [.mc ks vs] ∧ G.obj b = some X then 1 else G.mark X

/-- A block that is a variable's, or whose mark is what it was. -/
theorem frzM_cases {m0 : Nat → Nat} {w0 : World} {G : Gh} {F : Nat → Prop} {a : Act} {w : World} (h : Rel m0 w0 G E S F a w) (X : Nat) :
    (∃ b cs, S.B b = some cs ∧ G.box b = some X ∧ G.obj b = none ∧ frzM S G X = cs.length) ∨ (∃ b ks vs, S.B b = some [.mc ks vs] ∧ G.obj b = some X ∧ frzM S G X = 1) ∨
      ((∀ b cs, S.B b = some cs → G.box b = some X → G.obj b ≠ none) ∧ (∀ b ks vs, S.B b = some [.mc ks vs] → G.obj b ≠ some X) ∧ frzM S G X = G.mark X) := by
  unfold frzM
  split
  · rename_i hx
    obtain ⟨h1, h2, h3⟩ := hx.choose_spec.choose_spec
    exact .inl ⟨_, _, h1, h2, h3, rfl⟩
  · rename_i hx
    split
    · rename_i hy
      obtain ⟨b, ks, vs, h1, h2⟩ := hy
      exact .inr (.inl ⟨b, ks, vs, h1, h2, rfl⟩)
    · rename_i hy
      exact .inr (.inr ⟨fun b cs h1 h2 h3 => hx ⟨b, cs, h1, h2, h3⟩, fun b ks vs h1 h2 => hy ⟨b, ks, vs, h1, h2⟩, rfl⟩)

theorem frzM_box {m0 : Nat → Nat} {w0 : World} {G : Gh} {F : Nat → Prop} {a : Act} {w : World} (h : Rel m0 w0 G E S F a w) {b X : Nat} {cs : List SV} (hb : S.B b = some cs) (hg : G.box b = some X) : frzM S G X = cs.length := by
  have hno := h.boxOf hb hg
  rcases frzM_cases h X with ⟨b', cs', h1, h2, h3, h4⟩ | ⟨b', ks, vs, h1, h2, h3⟩ | ⟨h1, _, _⟩
  · obtain rfl : b' = b := h.inj _ _ X (by rw [h1]; simp) (by rw [hb]; simp) h2 hg
    rw [hb] at h1
    simp only [Option.some.injEq] at h1
    rw [h4, h1]
  · obtain ⟨_, _, _, k4⟩ := h.more.obj b' _ X h1 h2
    obtain ⟨o, ho1, ho2⟩ := k4.other
    obtain ⟨B, us, T, g1, g2, _⟩ := h.box b cs hb hno
    rw [hg] at g1; cases g1
    rw [g2] at ho1; cases ho1
    exact absurd rfl (ho2 _ _ _)
  · exact absurd hno (h1 b cs hb hg)
theorem frzM_map {m0 : Nat → Nat} {w0 : World} {G : Gh} {F : Nat → Prop} {a : Act} {w : World} (h : Rel m0 w0 G E S F a w) {b X : Nat} {ks : List D} {vs : List SV} (hb : S.B b = some [.mc ks vs]) (hg : G.obj b = some X) : frzM S G X = 1 := by
  rcases frzM_cases h X with ⟨b', cs', h1, h2, h3, h4⟩ | ⟨b', ks', vs', h1, h2, h3⟩ | ⟨_, h1, _⟩
  · obtain ⟨_, _, _, k4⟩ := h.more.obj b _ X hb hg
    obtain ⟨o, ho1, ho2⟩ := k4.other
    obtain ⟨B, us, T, g1, g2, _⟩ := h.box b' cs' h1 h3
    rw [h2] at g1; cases g1
    rw [g2] at ho1; cases ho1
    exact absurd rfl (ho2 _ _ _)
  · exact h3
  · exact absurd hg (h1 b ks vs hb)

theorem frzM_le {m0 : Nat → Nat} {w0 : World} {G : Gh} {F : Nat → Prop} {a : Act} {w : World} (h : Rel m0 w0 G E S F a w) (X : Nat) : G.mark X ≤ frzM S G X := by
  rcases frzM_cases h X with ⟨b, cs, h1, h2, h3, h4⟩ | ⟨b, ks, vs, h1, h2, h3⟩ | ⟨_, _, h3⟩
  · obtain ⟨B, us, T, g1, g2, g3, g4, _⟩ := h.box _ _ h1 h3
    rw [h2] at g1; cases g1
    rw [g4]; exact Nat.zero_le _
  · rw [(h.more.obj b _ X h1 h2).2.1]; exact Nat.zero_le _
  · exact Nat.le_of_eq h3.symm
/-- A block of those that were there before the call began, or of those that are not there. -/
theorem frzM_low {m0 : Nat → Nat} {w0 : World} {G : Gh} {F : Nat → Prop} {a : Act} {w : World} (h : Rel m0 w0 G E S F a w) {X : Nat} (hX : X < w0.heap.size ∨ w.heap.size ≤ X) : frzM S G X = G.mark X := by
  rcases frzM_cases h X with ⟨b, cs, h1, h2, h3, h4⟩ | ⟨b, ks, vs, h1, h2, h3⟩ | ⟨_, _, h3⟩
  · obtain ⟨B, us, T, g1, g2, g3, g4, g5, _⟩ := h.box _ _ h1 h3
    rw [h2] at g1; cases g1
    have := lt_of_heap g2
    omega
  · obtain ⟨_, _, k3, k4⟩ := h.more.obj b _ X h1 h2
    obtain ⟨o, ho1, _⟩ := k4.other
    have := lt_of_heap ho1
    omega
  · exact h3
theorem frzM_ok {m0 : Nat → Nat} {w0 : World} {G : Gh} {F : Nat → Prop} {a : Act} {w : World} (h : Rel m0 w0 G E S F a w) (hg : S.gl cleanAt ≠ none) : MOK (frzM S G) w := by
  intro X hX
  rcases frzM_cases h X with ⟨b, cs, h1, h2, h3, h4⟩ | ⟨b, ks, vs, h1, h2, h3⟩ | ⟨_, _, h3⟩
  · obtain ⟨B, us, T, g1, g2, g3, g4, g5, gu, _⟩ := h.box _ _ h1 h3
    rw [h2] at g1; cases g1
    rw [show T.2 = (0, 0) from gu] at g2
    exact .inl ⟨us, T.1, g2⟩
  · obtain ⟨_, _, _, k4⟩ := h.more.obj b _ X h1 h2
    cases k4 with
    | mp es hb _ _ _ _ _ => exact .inr (.inr ⟨es, _, hb⟩)
  · rw [h3] at hX ⊢
    exact h.more.clean hg X hX

theorem frz_ok {m0 : Nat → Nat} {w0 : World} {G : Gh} {F : Nat → Prop} {a : Act} {w : World} (h : Rel m0 w0 G E S F a w) : ∀ {k : Nat} {s : SV} {x : D} {u : Value}, frz S.B k s = some x → VR G w s u → PV (frzM S G) w x u
  | 0, _, _, _, hf, _ => by cases hf
  | k + 1, s, x, u, hf, hv => by
    have lift : ∀ {y : D} {v : Value}, PV G.mark w y v → PV (frzM S G) w y v := fun hp => hp.keep (frzM_le h) (fun _ _ _ => rfl) (fun _ _ _ _ h => h)
    have cells : ∀ {b B0 : Nat} {cs : List SV} {ds : List D}, S.B b = some cs → G.box b = some B0 → mapO (frz S.B k) cs = some ds → ∃ B, G.box b = some B ∧ ∃ us : Nat → Value, ds.length = cs.length ∧
        (∀ j, j < ds.length → j < frzM S G B ∧ w.cell? ⟨B, j, none⟩ = some (us j)) ∧ (∀ j (hj : j < ds.length), (ds[j]).cell = true) ∧ ∀ j (hj : j < ds.length), PV (frzM S G) w ds[j] (us j) := by
      intro b B0 cs ds hb hg0 hm
      obtain ⟨h1, h2⟩ := mapO_get hm
      obtain ⟨B, us, T, g1, g2, g3, g4, g5, gu0, g6⟩ := h.box b cs hb (h.boxOf hb hg0)
      refine ⟨B, g1, fun j => us.getD j undef, h1, fun j hj => ⟨by rw [frzM_box h hb g1]; omega, ?_⟩, fun j hj => frz_cell (h2 j (by omega) hj) (g6 j (by omega) (by omega)).1, fun j hj => ?_⟩
      · rw [cell_of_heap g2, Array.getElem?_eq_getElem (by omega)]
        simp [Array.getD_eq_getD_getElem?, Array.getElem?_eq_getElem (show j < us.size by omega)]
      · have := (g6 j (by omega) (by omega)).2
        have e : us.getD j undef = us[j]'(by omega) := by simp [Array.getD_eq_getD_getElem?, Array.getElem?_eq_getElem (show j < us.size by omega)]
        show PV _ _ _ (us.getD j undef)
        rw [e]
        exact frz_ok h (h2 j (by omega) hj) this
    cases hv with
    | d hp => simp only [frz, Option.some.injEq] at hf; subst hf; exact lift hp
    | fl hp hc => simp only [frz, Option.some.injEq] at hf; subst hf; exact lift hp
    | tp hp ht hn he => simp only [frz, Option.some.injEq] at hf; subst hf; exact lift hp
    | op hg =>
      rename_i b off B0
      simp only [frz] at hf
      split at hf
      · rename_i cs hb
        simp only [Option.map_eq_some_iff] at hf
        obtain ⟨ds, hm, rfl⟩ := hf
        obtain ⟨B, g1, us, g2, g3, g4, g5⟩ := cells hb hg hm
        rw [hg] at g1; cases g1
        have := PV.pp (m := frzM S G) (w := w) (cs := ds) (off := off) (o := 0) us (fun j hj => by rw [Nat.zero_add]; exact g3 j hj) g4 g5
        rw [Nat.zero_add] at this
        exact this
      · cases hf
    | os hg hn =>
      rename_i b off n c B0
      simp only [frz] at hf
      split at hf
      · rename_i cs hb
        simp only [Option.map_eq_some_iff] at hf
        obtain ⟨ds, hm, rfl⟩ := hf
        obtain ⟨B, g1, us, g2, g3, g4, g5⟩ := cells hb hg hm
        rw [hg] at g1; cases g1
        have := PV.part (l := off) (k := ds.length) (n' := n) (c' := c) (PV.ps (m := frzM S G) (w := w) (cs := ds) (n := 0) (c := 0) (o := 0) us (Nat.le_refl _) (fun j hj => by rw [Nat.zero_add]; exact g3 j hj) g4 g5) hn
        rw [List.take_of_length_le (by simp), Nat.zero_add] at this
        exact this
      · cases hf
    | sk hg hn hbb hr =>
      rename_i b n sz c B0 us0 T0 fr0
      simp only [frz] at hf
      split at hf
      · rename_i cs hb
        simp only [Option.map_eq_some_iff] at hf
        obtain ⟨ds, hm, rfl⟩ := hf
        obtain ⟨B, g1, us, g2, g3, g4, g5⟩ := cells hb hg hm
        rw [hg] at g1; cases g1
        exact .ps us hn (fun j hj => by rw [Nat.zero_add]; exact g3 j hj) g4 g5
      · cases hf
    | mv hg =>
      rename_i b B0
      simp only [frz] at hf
      split at hf
      · rename_i ks vs hb
        simp only [Option.map_eq_some_iff] at hf
        obtain ⟨ds, hm, rfl⟩ := hf
        obtain ⟨d1, d2⟩ := mapO_get hm
        obtain ⟨_, _, _, k4⟩ := h.more.obj b _ B0 hb hg
        cases k4 with
        | mp es hb' h1 h2 hborn hk hv =>
          exact .mp es (by rw [frzM_map h hb hg]; omega) hb' h1 (by omega) hborn (fun j hj hj' => lift (hk j hj hj')) (fun j hj hj' => frz_ok h (d2 j (by omega) hj) (hv j (by omega) hj'))
      · cases hf
    | iv _ => simp only [frz] at hf; cases hf
    | ag hl hk hv =>
      simp only [frz, Option.map_eq_some_iff] at hf
      obtain ⟨ds, hm, rfl⟩ := hf
      obtain ⟨h1, h2⟩ := mapO_get hm
      exact .agg (by omega) (fun j hj => frz_cell (h2 j (by omega) hj) (hk j (by omega))) (fun j hj hj' => frz_ok h (h2 j (by omega) hj) (hv j (by omega) hj'))
    | tu hl hv =>
      simp only [frz, Option.map_eq_some_iff] at hf
      obtain ⟨ds, hm, rfl⟩ := hf
      obtain ⟨h1, h2⟩ := mapO_get hm
      exact .tup (by omega) (fun j hj hj' => frz_ok h (h2 j (by omega) hj) (hv j (by omega) hj'))
    | fc hv =>
      simp only [frz, Option.map_eq_some_iff] at hf
      obtain ⟨y, hy, rfl⟩ := hf
      exact .ifc (frz_ok h hy hv)
    | fn hl hm hv hu =>
      simp only [frz] at hf
      split at hf
      · rename_i xs ys h1 h2
        simp only [Option.some.injEq] at hf; subst hf
        obtain ⟨a1, a2⟩ := mapO_get h1
        obtain ⟨b1, b2⟩ := mapO_get h2
        exact .fn (by omega) (by omega) (fun j hj hj' => frz_ok h (a2 j (by omega) hj) (hv j (by omega) hj')) (fun j hj hj' => frz_ok h (b2 j (by omega) hj) (hu j (by omega) hj'))
      · cases hf
  termination_by k => k

/-- The slots at the begin: the arguments; behind all slots, the program's own variables. -/
def startE (gl : Nat → Option D) (args : List SV) : Env := fun k => if k < globalsAt then args[k]? else (gl (k - globalsAt)).map .d
def startS (gl : Nat → Option D) (md : List Nat) (n : Nat) : St := { B := fun _ => none, T := fun _ => none, n := n, nx := 0, md := md, gl := gl }

theorem start_slots {gl : Nat → Option D} {G : Gh} {w : World} {ss : List SV} {vals : List Value} {n ntmps : Nat} (hl : vals.length = ss.length) (hle : ss.length ≤ n) (hv : ∀ j (h : j < ss.length) (h' : j < vals.length), VR G w ss[j] vals[j]) (hg : ∀ g x, gl g = some x → PV G.mark w x (.pointer (some ⟨g, 0, none⟩))) (rest : Array Value) :
    ∀ k s, startE gl ss k = some s → VR G w s (slotOf { tmps := vals.toArray ++ rest, defers := [] } k) := by
  intro k s hk
  unfold startE at hk
  unfold slotOf
  split at hk
  · rename_i hlt
    rw [if_pos hlt]
    obtain ⟨h1, rfl⟩ := List.getElem?_eq_some_iff.1 hk
    have : (vals.toArray ++ rest).getD k undef = vals[k]'(by omega) := by
      simp only [Array.getD_eq_getD_getElem?]
      rw [Array.getElem?_append_left (by simp; omega)]
      simp [List.getElem?_eq_getElem (show k < vals.length by omega)]
    rw [this]
    exact hv k h1 (by omega)
  · rename_i hlt
    rw [if_neg hlt]
    simp only [Option.map_eq_some_iff] at hk
    obtain ⟨x, hx, rfl⟩ := hk
    exact .d (hg _ x hx)

/-- A function whose code leads to its result. -/
theorem PCall.of {gl : Nat → Option D} {md : List Nat} {f : FuncId} {fn : Func} {c : Code} {args : List D} {r : D} (hf : P.funcs[f]? = some fn) (hb : fn.body = some c) (hname : (fn.name == "runtime.NumGoroutine") = false) {n : Nat} (hn : fn.ntmps = n) (hle : args.length ≤ n) (hfew : n ≤ globalsAt)
    (h : CS P c (startE gl (args.map .d)) (startS gl md n) (fun ex E S => (ex = .normal ∨ ex = .ret) ∧ ∃ s, resS P E S fn.results.toList = some s ∧ frz S.B 16 s = some r)) : PCall P gl f args r := by
  refine ⟨⟨fn, hf, hname, by rw [hb]; rfl⟩, fun m w vals hm hg hl hv => calls_of_wp hf hb ?_⟩
  have hsz : (vals.toArray ++ Array.replicate (fn.ntmps - vals.toArray.size) undef).size = n := by simp; omega
  have hstart := start_slots (gl := gl) (G := ⟨fun _ => none, fun _ => none, m, fun _ => none⟩) (w := w) (ss := args.map .d) (vals := vals) (n := n) (ntmps := n) (by simpa using hl) (by simpa using hle) (fun j hj hj' => by
    have : (args.map SV.d)[j] = .d (args[j]'(by simpa using hj)) := by simp
    rw [this]
    exact .d (hv j (by simpa using hj) hj')) hg.1 (Array.replicate (fn.ntmps - vals.toArray.size) undef)
  refine h m w ⟨fun _ => none, fun _ => none, m, fun _ => none⟩ { tmps := vals.toArray ++ Array.replicate (fn.ntmps - vals.toArray.size) undef, defers := [] } w (fun _ => False) (fun _ hb => hb.elim)
    ⟨hstart, hsz, hfew, fun b cs hb => by simp [startS] at hb, fun b b' B hb => by simp [startS] at hb, fun i k sz hi => by simp [startS] at hi, fun i i' B v k c v' k' c' hi => by simp at hi, fun i B v k c hi => by simp at hi, fun i b B v k c hi => by simp at hi, fun b hb => ⟨rfl, rfl⟩, hm, fun _ _ => rfl, Below.refl _ _, rfl, hg.1, ⟨fun b cs B hb => by simp [startS] at hb, fun b b' B hb => by simp [startS] at hb, fun _ _ => rfl, hg.2⟩⟩ _ ?_
  rintro ex G' E' S' a' w' ⟨hex, s, hs, hd⟩ hn' hr' f
  obtain ⟨u, hu, hv'⟩ := resS_ok hr' hs
  have hlow : ∀ B, B < w.heap.size → frzM S' G' B = m B := fun B hB => (frzM_low hr' (.inl hB)).trans (hr'.low B hB)
  have hhigh : ∀ B, w'.heap.size ≤ B → frzM S' G' B = 0 := fun B hB => (frzM_low hr' (.inr hB)).trans (hr'.new B hB)
  have hok : gl cleanAt ≠ none → ∀ B, w.heap.size ≤ B → 0 < frzM S' G' B → okB w' B (frzM S' G' B) := fun hgl B _ hB => frzM_ok hr' (by rw [hn'.gl]; exact hgl) B hB
  have fin : a'.defers = [] ∧ ∃ v, (results fn a'.tmps).run P w' = .ok v w' ∧ (∃ u m', Ending.returned v = Ending.returned u ∧ PV m' w' r u ∧ (∀ B, B < w.heap.size → m' B = m B) ∧ (∀ B, w'.heap.size ≤ B → m' B = 0) ∧ Below w.heap.size w w' ∧ (gl cleanAt ≠ none → ∀ B, w.heap.size ≤ B → 0 < m' B → okB w' B (m' B))) :=
    ⟨hr'.defers, u, hu, u, frzM S' G', rfl, frz_ok hr' hd hv', hlow, hhigh, hr'.below, hok⟩
  rcases hex with rfl | rfl
  · exact fin
  · exact fin

/-- A state that knows no more than another one. -/
def Less (S' S1 : St) : Prop := (∀ b cs, S'.B b = some cs → S1.B b = some cs) ∧ (∀ i p, S'.T i = some p → S1.T i = some p) ∧ S1.nx ≤ S'.nx

theorem Rel.forget {m0 : Nat → Nat} {w0 : World} {G : Gh} {F : Nat → Prop} {a : Act} {w : World} (h : Rel m0 w0 G E S F a w) (hl : Less S' S) (hn : S'.n = S.n) (hg : S'.gl = S.gl) : Rel m0 w0 G E S' F a w :=
  have ne : ∀ b, S'.B b ≠ none → S.B b ≠ none := fun b hb e => by
    obtain ⟨cs, hcs⟩ := Option.ne_none_iff_exists'.1 hb
    rw [hl.1 b cs hcs] at e; cases e
  ⟨h.env, by rw [hn]; exact h.size, by rw [hn]; exact h.few, fun b cs hb ho => h.box b cs (hl.1 b cs hb) ho, fun b b' B hb hb' => h.inj b b' B (ne b hb) (ne b' hb'), fun i k sz hi => h.tip i k sz (hl.2.1 i _ hi), h.tinj, h.tlt, fun i b B v k c hi hb => h.tbox i b B v k c hi (ne b hb), h.fresh, h.new, h.low, h.below, h.defers, by rw [hg]; exact h.glob, h.more.keep (Fut.refl _ _) (.refl _) (fun b cs B hb _ => hl.1 b cs hb) rfl (fun _ _ _ => rfl) rfl (fun _ h => h) hg⟩

/-- A function that works on the variables of its caller. -/
theorem LCall.of {f : FuncId} {fn : Func} {c : Code} {ss : List SV} {r : SV} {md : List Nat} (hf : P.funcs[f]? = some fn) (hb : fn.body = some c) (hname : (fn.name == "runtime.NumGoroutine") = false) {n : Nat} (hn : fn.ntmps = n) (hle : ss.length ≤ n) (hfew : n ≤ globalsAt) (hk : Keeps S S')
    (h : CS P c (startE S.gl ss) { S with n := n, md := md } (fun ex E1 S1 => (ex = .normal ∨ ex = .ret) ∧ resS P E1 S1 fn.results.toList = some r ∧ Less S' S1)) : LCall P f ss S r S' := by
  refine ⟨⟨fn, hf, hname, by rw [hb]; rfl⟩, hk, fun m0 w0 G E F a w vals hr hF hl hv => calls_of_wp hf hb ?_⟩
  have hsz : (vals.toArray ++ Array.replicate (fn.ntmps - vals.toArray.size) undef).size = n := by simp; omega
  have hstart := start_slots (gl := S.gl) (G := G) (w := w) (ss := ss) (vals := vals) (n := n) (ntmps := n) hl hle hv hr.glob (Array.replicate (fn.ntmps - vals.toArray.size) undef)
  refine h m0 w0 G { tmps := vals.toArray ++ Array.replicate (fn.ntmps - vals.toArray.size) undef, defers := [] } w (fun b => F b ∧ b < S.nx) (fun _ hb => hb.2)
    ⟨hstart, hsz, hfew, hr.box, hr.inj, hr.tip, hr.tinj, hr.tlt, hr.tbox, fun b hb => hr.fresh b (hb.elim (hF b) (fun h => h.1)), hr.new, hr.low, hr.below, rfl, hr.glob, hr.more.keep (Fut.refl _ _) (.refl _) (fun _ _ _ h _ => h) rfl (fun _ _ _ => rfl) rfl (fun b hb => hb.elim (hF b) (fun h => h.1)) rfl⟩ _ ?_
  rintro ex G' E' S1 a' w' ⟨hex, hs, hless⟩ hn' hr' f
  obtain ⟨u, hu, hv'⟩ := resS_ok hr' hs
  have hnx : S.nx ≤ S1.nx := hn'.nx
  have k := hr'.forget (S' := { S' with n := S1.n }) hless rfl (hk.gl.trans hn'.gl.symm)
  have fin : a'.defers = [] ∧ ∃ v, (results fn a'.tmps).run P w' = .ok v w' ∧ (∃ u G'', Ending.returned v = Ending.returned u ∧ VR G'' w' r u ∧ Rel m0 w0 G'' E S' (fun b => F b ∧ ¬ (S.nx ≤ b ∧ b < S'.nx)) a w' ∧ Fut G w G'' w') :=
    ⟨hr'.defers, u, hu, u, G', rfl, hv', ⟨fun j s hj => (hr.env j s hj).fut f, by rw [hk.n]; exact hr.size, by rw [hk.n]; exact hr.few, k.box, k.inj, k.tip, k.tinj, k.tlt, k.tbox, fun b hb => hr'.fresh b (by
      have h3 := hless.2.2
      rcases Nat.lt_or_ge b S.nx with hb2 | hb2
      · exact .inr ⟨hb.1, hb2⟩
      · exact .inl (by have := hb.2; omega)), k.new, k.low, k.below, hr.defers, k.glob, k.more.keep (Fut.refl _ _) (.refl _) (fun _ _ _ h _ => h) rfl (fun _ _ _ => rfl) rfl (fun b hb => (by
      have h3 := hless.2.2
      rcases Nat.lt_or_ge b S.nx with hb2 | hb2
      · exact .inr ⟨hb.1, hb2⟩
      · exact .inl (by have := hb.2; omega))) rfl⟩, f⟩
  rcases hex with rfl | rfl
  · exact fin
  · exact fin
end
end Go.Sh
