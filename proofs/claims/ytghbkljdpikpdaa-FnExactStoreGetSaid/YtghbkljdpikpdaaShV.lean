/- THE SHADOW, 20 (behind ShU): rows known by where they lie: comparisons, keys of maps; copies of rows. Over any program. -/
import Derived.Test.YtghbkljdpikpdaaShU
set_option linter.unusedVariables false
set_option linter.unusedSimpArgs false
namespace Go.Sh
open Go.RowKit (Below)

/-- No value is both. -/
inductive Apart : D → D → Prop
  | v {x y : Value} (h : x ≠ y) : Apart (.v x) (.v y)
  | len {cs cs' : List D} {n n' : Nat} (h : n ≠ n') : Apart (.ps cs n) (.ps cs' n')
  | ps {cs cs' : List D} {n n' j : Nat} (hj : j < cs.length) (hj' : j < cs'.length) (h : Apart cs[j] cs'[j]) : Apart (.ps cs n) (.ps cs' n')
  | pp {cs cs' : List D} {off off' j : Nat} (hj : off + j < cs.length) (hj' : off' + j < cs'.length) (h : Apart cs[off + j] cs'[off' + j]) : Apart (.pp cs off) (.pp cs' off')
  | agg {cs cs' : List D} {j : Nat} (hj : j < cs.length) (hj' : j < cs'.length) (h : Apart cs[j] cs'[j]) : Apart (.agg cs) (.agg cs')
  | nilp {cs : List D} {off : Nat} : Apart (.v (.pointer none)) (.pp cs off)
  | pnil {cs : List D} {off : Nat} : Apart (.pp cs off) (.v (.pointer none))

theorem Apart.no {m : Nat → Nat} {w : World} {x y : D} (h : Apart x y) : ∀ {u : Value}, PV m w x u → PV m w y u → False := by
  induction h with
  | v h =>
    intro u h1 h2
    cases h1; cases h2; exact h rfl
  | len h =>
    intro u h1 h2
    cases h1 <;> cases h2 <;> exact h rfl
  | ps hj hj' h ih =>
    intro u h1 h2
    cases h1 with
    | nil => simp at hj
    | pz _ => simp at hj
    | ps us hn hc hk hv =>
      cases h2 with
      | pz _ => simp at hj'
      | ps us' hn' hc' hk' hv' =>
        have e1 := (hc _ hj).2
        have e2 := (hc' _ hj').2
        rw [e1] at e2
        have := Option.some.inj e2
        have a := hv _ hj
        rw [this] at a
        exact ih a (hv' _ hj')
  | pp hj hj' h ih =>
    intro u h1 h2
    generalize hu : u = u' at h2
    cases h1 with
    | pp us hc hk hv =>
      cases h2 with
      | pp us' hc' hk' hv' =>
        simp only [Value.pointer.injEq, Option.some.injEq, Addr.mk.injEq] at hu
        obtain ⟨rfl, e, _⟩ := hu
        have e1 := (hc _ hj).2
        have e2 := (hc' _ hj').2
        rw [← Nat.add_assoc] at e1 e2
        rw [e, e2] at e1
        have := Option.some.inj e1
        have a := hv' _ hj'
        rw [this] at a
        exact ih (hv _ hj) a
      | _ => cases hu
  | agg hj hj' h ih =>
    intro u h1 h2
    generalize hu : u = u' at h2
    cases h1 with
    | agg hl hk hv =>
      cases h2 with
      | agg hl' hk' hv' =>
        simp only [Value.agg.injEq] at hu
        have := congrArg Array.toList hu
        simp at this
        subst this
        exact ih (hv _ hj (by omega)) (hv' _ hj' (by omega))
  | nilp =>
    intro u h1 h2
    cases h1 with
    | v h => cases h2
  | pnil =>
    intro u h1 h2
    cases h2 with
    | v h => cases h1

section
variable {P : Program} {m0 : Nat → Nat} {w0 : World} {G : Gh} {E : Env} {S : St} {F : Nat → Prop} {a : Act} {w : World} {o : Oper}

/-! ### which types, which data -/
def ptrT (P : Program) (T : TypeId) : Bool := match P.underlying T with | some (.pointer e) => (match P.info? e with | some i => decide (i.size ≠ 0) | none => false) | _ => false
def intT (P : Program) (T : TypeId) : Bool := match P.underlying T with | some (.int _) => true | _ => false
/-- A struct of a pointer and a number. -/
def spanT (P : Program) (T : TypeId) : Bool := match P.underlying T with
  | some (.struct fs) => match fs.toList with
    | [f, g] => f.name != "_" && g.name != "_" && ptrT P f.type && intT P g.type && f.offset == 0 && g.offset == 1 && !P.stoodInHeld T && szOf P T == some 2 && !P.eqGuardType P.depth T
    | _ => false
  | _ => false
/-- A struct of two such. -/
def metT (P : Program) (T : TypeId) : Bool := match P.underlying T with
  | some (.struct fs) => match fs.toList with
    | [f, g] => f.name != "_" && g.name != "_" && spanT P f.type && spanT P g.type && f.offset == 0 && g.offset == 2 && !P.stoodInHeld T
    | _ => false
  | _ => false
def ptrD : D → Bool
  | .v (.pointer none) => true
  | .pp cs off => (match cs[off]? with | some (.v (.int .i64 _)) => true | _ => false)
  | _ => false
def intD : D → Bool
  | .v (.int .i64 _) => true
  | _ => false
/-- Data that may be compared as values of type T. -/
def keyD (P : Program) (T : TypeId) (x : D) : Bool := match x with
  | .agg [p, n] => spanT P T && ptrD p && intD n
  | .agg [p, n, q, k] => metT P T && ptrD p && intD n && ptrD q && intD k
  | _ => false

theorem ptrT_ok {T : TypeId} (h : ptrT P T = true) : ∃ e i, P.underlying T = some (.pointer e) ∧ P.info? e = some i ∧ i.size ≠ 0 := by
  cases hu : P.underlying T with
  | none => simp [ptrT, hu] at h
  | some d =>
    cases d with
    | pointer e =>
      cases hi : P.info? e with
      | none => simp [ptrT, hu, hi] at h
      | some i => exact ⟨e, i, rfl, hi, by simpa [ptrT, hu, hi] using h⟩
    | _ => simp [ptrT, hu] at h
theorem intT_ok {T : TypeId} (h : intT P T = true) : ∃ k, P.underlying T = some (.int k) := by
  cases hu : P.underlying T with
  | none => simp [intT, hu] at h
  | some d =>
    cases d with
    | int k => exact ⟨k, rfl⟩
    | _ => simp [intT, hu] at h
theorem ptrD_pp {cs : List D} {off : Nat} (h : ptrD (.pp cs off) = true) : ∃ n, cs[off]? = some (.v (.int .i64 n)) := by
  simp only [ptrD] at h
  split at h
  · exact ⟨_, by assumption⟩
  · cases h

/-- They can be compared, and are the same if that is the answer. -/
def EqAt (P : Program) (w : World) (d : Nat) (T : TypeId) (u v : Value) : Prop := ∃ b, (∀ k, (Op.equalIn (k + d) T u v).run P w = .ok b w) ∧ (b = true → u = v)

theorem ptr_clean {m : Nat → Nat} {cs : List D} {off : Nat} {A : Addr} (hm : MOK m w) (hx : ptrD (.pp cs off) = true) (h : PV m w (.pp cs off) (.pointer (some A))) : ∃ us T, w.heap[A.block]? = some (.cells us T (0, 0)) := by
  cases h with
  | pp us hc hk hv =>
    rename_i B o'
    obtain ⟨n, hcs⟩ := ptrD_pp hx
    · obtain ⟨hlt, he⟩ := List.getElem?_eq_some_iff.1 hcs
      obtain ⟨h1, h2⟩ := hc off hlt
      have hval := hv off hlt
      rw [he] at hval
      have hu : us off = .int .i64 n := (VR.v_inv (G := ⟨fun _ => none, fun _ => none, m, fun _ => none⟩) (w := w) (.d hval)).1
      rw [hu] at h2
      rcases hm B (by omega) with ⟨us', T, h3⟩ | ⟨us', T, fr, h3, h4⟩ | ⟨es, c, h3⟩
      · exact ⟨us', T, h3⟩
      · obtain ⟨k, hk4⟩ := h4 _ h1
        rw [cellS_of h3, hk4] at h2
        cases h2
      · simp [World.cell?, h3] at h2

theorem ptr_shape {m : Nat → Nat} {x : D} {u : Value} (hm : MOK m w) (hx : ptrD x = true) (h : PV m w x u) : u = .pointer none ∨ ∃ A, u = .pointer (some A) ∧ ∃ us T, w.heap[A.block]? = some (.cells us T (0, 0)) := by
  cases x with
  | v x =>
    have e := (VR.v_inv (G := ⟨fun _ => none, fun _ => none, m, fun _ => none⟩) (w := w) (.d h)).1
    subst e
    cases u with
    | pointer A =>
      cases A with
      | none => exact .inl rfl
      | some A => simp [ptrD] at hx
    | _ => simp [ptrD] at hx
  | pp cs off =>
    have hc := fun A => ptr_clean (A := A) hm hx
    cases h with
    | pp us hcc hk hv => exact .inr ⟨_, rfl, hc _ (.pp us hcc hk hv)⟩
  | _ => simp [ptrD] at hx

theorem ptr_eq {m : Nat → Nat} {T : TypeId} {x y : D} {u v : Value} (hT : ptrT P T = true) (hm : MOK m w) (hx : ptrD x = true) (hy : ptrD y = true) (h1 : PV m w x u) (h2 : PV m w y v) : EqAt P w 1 T u v := by
  obtain ⟨e, i, hu, hi, hsz⟩ := ptrT_ok hT
  have nil1 : ∀ c, EqAt P w 1 T (.pointer none) (.pointer c) := fun c => ⟨c.isNone, fun k => by simp [Op.equalIn, run_under hu], fun h => by cases c <;> simp_all⟩
  have nil2 : ∀ A, EqAt P w 1 T (.pointer (some A)) (.pointer none) := fun A => ⟨false, fun k => by simp [Op.equalIn, run_under hu], fun h => by cases h⟩
  have both : ∀ A B : Addr, (∃ us T, w.heap[A.block]? = some (.cells us T (0, 0))) → (∃ us T, w.heap[B.block]? = some (.cells us T (0, 0))) → EqAt P w 1 T (.pointer (some A)) (.pointer (some B)) := fun A B hA hB => by
    by_cases e1 : A = B
    · subst e1
      exact ⟨true, fun k => by simp [Op.equalIn, run_under hu, sizeOf, typeInfo, hi, run_sameAddr_same], fun _ => rfl⟩
    · obtain ⟨us, T1, hA⟩ := hA
      obtain ⟨us', T2, hB⟩ := hB
      exact ⟨false, fun k => by simp [Op.equalIn, run_under hu, sizeOf, typeInfo, hi, hsz, run_sameAddr_other w e1 hA hB], fun h => by cases h⟩
  have shape : ∀ {x : D} {u : Value}, ptrD x = true → PV m w x u → u = .pointer none ∨ ∃ A, u = .pointer (some A) ∧ ∃ us T, w.heap[A.block]? = some (.cells us T (0, 0)) := fun hx h => ptr_shape hm hx h
  rcases shape hx h1 with rfl | ⟨A, rfl, hA⟩
  · rcases shape hy h2 with rfl | ⟨B, rfl, hB⟩
    · exact nil1 _
    · exact nil1 _
  · rcases shape hy h2 with rfl | ⟨B, rfl, hB⟩
    · exact nil2 _
    · exact both A B hA hB

theorem intD_inv {m : Nat → Nat} {x : D} {u : Value} (hx : intD x = true) (h : PV m w x u) : ∃ n, u = .int .i64 n := by
  unfold intD at hx
  split at hx
  · rename_i n
    exact ⟨n, (VR.v_inv (G := ⟨fun _ => none, fun _ => none, m, fun _ => none⟩) (w := w) (.d h)).1⟩
  · cases hx

theorem int_eq {m : Nat → Nat} {T : TypeId} {x y : D} {u v : Value} (hT : intT P T = true) (hx : intD x = true) (hy : intD y = true) (h1 : PV m w x u) (h2 : PV m w y v) : EqAt P w 1 T u v := by
  obtain ⟨k, hu⟩ := intT_ok hT
  obtain ⟨n, rfl⟩ := intD_inv hx h1
  obtain ⟨n', rfl⟩ := intD_inv hy h2
  exact ⟨n == n', fun d => run_equalIn_int w d T .i64 k n n' hu, fun h => by rw [beq_iff_eq.1 h]⟩

theorem run_part_leaf {T : TypeId} {d : TypeDesc} (hd : P.underlying T = some d) (hs : ∀ fs, d ≠ .struct fs) (ha : ∀ n e, d ≠ .array n e) {us : Array Value} {off : Nat} {u : Value} (h : us[off]? = some u) : (part T us off).run P w = .ok u w := by
  have : (isAgg T).run P w = .ok false w := by
    rw [run_isAgg hd]
    cases d <;> first | rfl | exact absurd rfl (hs _) | exact absurd rfl (ha _ _)
  simp [part, this, h]
theorem run_part_struct {T : TypeId} {fs : Array Field} {n : Nat} (hd : P.underlying T = some (.struct fs)) (hn : szOf P T = some n) {us : Array Value} {off : Nat} : (part T us off).run P w = .ok (.agg (us.extract off (off + n))) w := by
  have : (isAgg T).run P w = .ok true w := by rw [run_isAgg hd]
  simp [part, this, run_size hn]

/-- Two fields, one behind the other. -/
theorem two_eq {d : Nat} {T : TypeId} {f g : Field} {xs ys : Array Value} {u1 v1 u2 v2 : Value} (hu : ∃ fs, P.underlying T = some (.struct fs) ∧ fs.toList = [f, g]) (hf : f.name ≠ "_") (hg : g.name ≠ "_") (hst : P.stoodInHeld T = false)
    (p1 : (part f.type xs f.offset).run P w = .ok u1 w) (p2 : (part f.type ys f.offset).run P w = .ok v1 w) (p3 : (part g.type xs g.offset).run P w = .ok u2 w) (p4 : (part g.type ys g.offset).run P w = .ok v2 w)
    (e1 : EqAt P w d f.type u1 v1) (e2 : EqAt P w d g.type u2 v2) (hall : u1 = v1 → u2 = v2 → xs = ys) : EqAt P w (d + 1) T (.agg xs) (.agg ys) := by
  obtain ⟨fs, hu, hl⟩ := hu
  have hfo : P.fieldsOf T = fs := by unfold Program.fieldsOf; rw [hu]
  obtain ⟨b1, r1, i1⟩ := e1
  obtain ⟨b2, r2, i2⟩ := e2
  refine ⟨b1 && b2, fun k => ?_, fun h => ?_⟩
  · rw [show k + (d + 1) = (k + d) + 1 by omega, run_equalIn_struct w (k + d) T xs ys (by rw [hfo]; exact hu) hst, hfo, hl]
    simp only [Op.eqFields, if_pos hf, if_pos hg, Sem.run_bind, p1, p2, p3, p4, r1, r2, Result.andThen]
    cases b1 <;> cases b2 <;> simp [r2, p3, p4]
  · simp only [Bool.and_eq_true] at h
    rw [hall (i1 h.1) (i2 h.2)]

theorem spanT_ok {T : TypeId} (h : spanT P T = true) : ∃ (fs : Array Field) (f g : Field), P.underlying T = some (.struct fs) ∧ fs.toList = [f, g] ∧ f.name ≠ "_" ∧ g.name ≠ "_" ∧ ptrT P f.type = true ∧ intT P g.type = true ∧ f.offset = 0 ∧ g.offset = 1 ∧ P.stoodInHeld T = false ∧ szOf P T = some 2 ∧ P.eqGuardType P.depth T = false := by
  unfold spanT at h
  split at h
  · rename_i fs hu
    split at h
    · rename_i f g hl
      simp only [Bool.and_eq_true, bne_iff_ne, ne_eq, beq_iff_eq, Bool.not_eq_true'] at h
      obtain ⟨⟨⟨⟨⟨⟨⟨⟨h1, h2⟩, h3⟩, h4⟩, h5⟩, h6⟩, h7⟩, h8⟩, h9⟩ := h
      exact ⟨fs, f, g, hu, hl, h1, h2, h3, h4, h5, h6, h7, h8, h9⟩
    · cases h
  · cases h
theorem metT_ok {T : TypeId} (h : metT P T = true) : ∃ (fs : Array Field) (f g : Field), P.underlying T = some (.struct fs) ∧ fs.toList = [f, g] ∧ f.name ≠ "_" ∧ g.name ≠ "_" ∧ spanT P f.type = true ∧ spanT P g.type = true ∧ f.offset = 0 ∧ g.offset = 2 ∧ P.stoodInHeld T = false := by
  unfold metT at h
  split at h
  · rename_i fs hu
    split at h
    · rename_i f g hl
      simp only [Bool.and_eq_true, bne_iff_ne, ne_eq, beq_iff_eq, Bool.not_eq_true'] at h
      obtain ⟨⟨⟨⟨⟨⟨h1, h2⟩, h3⟩, h4⟩, h5⟩, h6⟩, h7⟩ := h
      exact ⟨fs, f, g, hu, hl, h1, h2, h3, h4, h5, h6, h7⟩
    · cases h
  · cases h
theorem ptrT_under {T : TypeId} (h : ptrT P T = true) : ∃ d, P.underlying T = some d ∧ (∀ fs, d ≠ .struct fs) ∧ ∀ n e, d ≠ .array n e := by
  obtain ⟨e, _, hu, _⟩ := ptrT_ok h
  exact ⟨_, hu, nofun, nofun⟩
theorem intT_under {T : TypeId} (h : intT P T = true) : ∃ d, P.underlying T = some d ∧ (∀ fs, d ≠ .struct fs) ∧ ∀ n e, d ≠ .array n e := by
  obtain ⟨e, hu⟩ := intT_ok h
  exact ⟨_, hu, nofun, nofun⟩

theorem span_eq {m : Nat → Nat} {T : TypeId} {p n p' n' : D} {u1 u2 v1 v2 : Value} (hT : spanT P T = true) (hm : MOK m w) (hp : ptrD p = true) (hn : intD n = true) (hp' : ptrD p' = true) (hn' : intD n' = true)
    (h1 : PV m w p u1) (h2 : PV m w n u2) (h3 : PV m w p' v1) (h4 : PV m w n' v2) : EqAt P w 2 T (.agg #[u1, u2]) (.agg #[v1, v2]) := by
  obtain ⟨fs, f, g, hu, hl, hf, hg, hpt, hit, hf0, hg1, hst, _, _⟩ := spanT_ok hT
  obtain ⟨d1, k1, k2, k3⟩ := ptrT_under hpt
  obtain ⟨d2, l1, l2, l3⟩ := intT_under hit
  refine two_eq (d := 1) ⟨fs, hu, hl⟩ hf hg hst (run_part_leaf k1 k2 k3 (by rw [hf0]; rfl)) (run_part_leaf k1 k2 k3 (by rw [hf0]; rfl)) (run_part_leaf l1 l2 l3 (by rw [hg1]; rfl)) (run_part_leaf l1 l2 l3 (by rw [hg1]; rfl)) (ptr_eq hpt hm hp hp' h1 h3) (int_eq hit hn hn' h2 h4) (fun e1 e2 => by rw [e1, e2])

theorem met_eq {m : Nat → Nat} {T : TypeId} {p n q k p' n' q' k' : D} {u1 u2 u3 u4 v1 v2 v3 v4 : Value} (hT : metT P T = true) (hm : MOK m w) (hp : ptrD p = true) (hn : intD n = true) (hq : ptrD q = true) (hk : intD k = true) (hp' : ptrD p' = true) (hn' : intD n' = true) (hq' : ptrD q' = true) (hk' : intD k' = true)
    (h1 : PV m w p u1) (h2 : PV m w n u2) (h3 : PV m w q u3) (h4 : PV m w k u4) (g1 : PV m w p' v1) (g2 : PV m w n' v2) (g3 : PV m w q' v3) (g4 : PV m w k' v4) : EqAt P w 3 T (.agg #[u1, u2, u3, u4]) (.agg #[v1, v2, v3, v4]) := by
  obtain ⟨fs, f, g, hu, hl, hf, hg, hpt, hit, hf0, hg1, hst⟩ := metT_ok hT
  obtain ⟨fs1, _, _, hu1, _, _, _, _, _, _, _, _, hs1, _⟩ := spanT_ok hpt
  obtain ⟨fs2, _, _, hu2, _, _, _, _, _, _, _, _, hs2, _⟩ := spanT_ok hit
  have e1 : ∀ a b c d : Value, (part f.type #[a, b, c, d] f.offset).run P w = .ok (.agg #[a, b]) w := fun a b c d => by rw [run_part_struct hu1 hs1, hf0]; rfl
  have e2 : ∀ a b c d : Value, (part g.type #[a, b, c, d] g.offset).run P w = .ok (.agg #[c, d]) w := fun a b c d => by rw [run_part_struct hu2 hs2, hg1]; rfl
  refine two_eq (d := 2) ⟨fs, hu, hl⟩ hf hg hst (e1 _ _ _ _) (e1 _ _ _ _) (e2 _ _ _ _) (e2 _ _ _ _) (span_eq hpt hm hp hn hp' hn' h1 h2 g1 g2) (span_eq hit hm hq hk hq' hk' h3 h4 g3 g4) (fun e1 e2 => ?_)
  simp only [Value.agg.injEq, Array.mk.injEq, List.cons.injEq, and_true] at e1 e2
  rw [e1.1, e1.2, e2.1, e2.2]

theorem agg2 {m : Nat → Nat} {p n : D} {u : Value} (h : PV m w (.agg [p, n]) u) : ∃ u1 u2, u = .agg #[u1, u2] ∧ PV m w p u1 ∧ PV m w n u2 := by
  cases h with
  | agg hl hk hv =>
    rename_i us
    match us, hl with
    | [u1, u2], _ => exact ⟨u1, u2, rfl, hv 0 (by simp) (by simp), hv 1 (by simp) (by simp)⟩
theorem agg4 {m : Nat → Nat} {p n q k : D} {u : Value} (h : PV m w (.agg [p, n, q, k]) u) : ∃ u1 u2 u3 u4, u = .agg #[u1, u2, u3, u4] ∧ PV m w p u1 ∧ PV m w n u2 ∧ PV m w q u3 ∧ PV m w k u4 := by
  cases h with
  | agg hl hk hv =>
    rename_i us
    match us, hl with
    | [u1, u2, u3, u4], _ => exact ⟨u1, u2, u3, u4, rfl, hv 0 (by simp) (by simp), hv 1 (by simp) (by simp), hv 2 (by simp) (by simp), hv 3 (by simp) (by simp)⟩

theorem ptr_bits {m : Nat → Nat} {x : D} {u : Value} (hm : MOK m w) (hx : ptrD x = true) (h : PV m w x u) (n : Nat) : Instr.sameBits n u u = true := by
  rcases ptr_shape hm hx h with rfl | ⟨A, rfl, _⟩ <;> cases n <;> simp [Instr.sameBits]
theorem int_bits {m : Nat → Nat} {x : D} {u : Value} (hx : intD x = true) (h : PV m w x u) (n : Nat) : Instr.sameBits n u u = true := by
  obtain ⟨k, rfl⟩ := intD_inv hx h
  cases n <;> simp [Instr.sameBits]

/-- Two keys of one type. -/
theorem key_eq {m : Nat → Nat} {T : TypeId} {x y : D} {u v : Value} (hm : MOK m w) (hx : keyD P T x = true) (hy : keyD P T y = true) (h1 : PV m w x u) (h2 : PV m w y v) : ∃ b, (Op.equal T u v).run P w = .ok b w ∧ (b = true → u = v) := by
  have fin : ∀ {d : Nat}, d ≤ 10000 → EqAt P w d T u v → ∃ b, (Op.equal T u v).run P w = .ok b w ∧ (b = true → u = v) := fun {d} hd ⟨b, r, i⟩ => ⟨b, by
    have := r (10000 - d)
    rw [show 10000 - d + d = 10000 by omega] at this
    exact this, i⟩
  unfold keyD at hx hy
  split at hx
  · rename_i p n
    simp only [Bool.and_eq_true] at hx
    obtain ⟨u1, u2, rfl, a1, a2⟩ := agg2 h1
    split at hy
    · simp only [Bool.and_eq_true] at hy
      obtain ⟨v1, v2, rfl, b1, b2⟩ := agg2 h2
      exact fin (by omega) (span_eq hx.1.1 hm hx.1.2 hx.2 hy.1.2 hy.2 a1 a2 b1 b2)
    · simp only [Bool.and_eq_true] at hy
      obtain ⟨fs, f, g, hu, hl, _, _, _, _, hf0, hg1, _⟩ := spanT_ok hx.1.1
      obtain ⟨fs', f', g', hu', hl', _, _, _, _, hf0', hg1', _⟩ := metT_ok hy.1.1.1.1
      rw [hu] at hu'; cases hu'
      rw [hl] at hl'; cases hl'
      rw [hg1] at hg1'; cases hg1'
    · cases hy
  · rename_i p n q k
    simp only [Bool.and_eq_true] at hx
    obtain ⟨u1, u2, u3, u4, rfl, a1, a2, a3, a4⟩ := agg4 h1
    split at hy
    · simp only [Bool.and_eq_true] at hy
      obtain ⟨fs, f, g, hu, hl, _, _, _, _, hf0, hg1, _⟩ := spanT_ok hy.1.1
      obtain ⟨fs', f', g', hu', hl', _, _, _, _, hf0', hg1', _⟩ := metT_ok hx.1.1.1.1
      rw [hu] at hu'; cases hu'
      rw [hl] at hl'; cases hl'
      rw [hg1] at hg1'; cases hg1'
    · simp only [Bool.and_eq_true] at hy
      obtain ⟨v1, v2, v3, v4, rfl, b1, b2, b3, b4⟩ := agg4 h2
      exact fin (by omega) (met_eq hx.1.1.1.1 hm hx.1.1.1.2 hx.1.1.2 hx.1.2 hx.2 hy.1.1.1.2 hy.1.1.2 hy.1.2 hy.2 a1 a2 a3 a4 b1 b2 b3 b4)
    · cases hy
  · cases hx

theorem key_bits {m : Nat → Nat} {T : TypeId} {x : D} {u : Value} (hm : MOK m w) (hx : keyD P T x = true) (h : PV m w x u) : Instr.sameBits 10000 u u = true := by
  unfold keyD at hx
  split at hx
  · simp only [Bool.and_eq_true] at hx
    obtain ⟨u1, u2, rfl, a1, a2⟩ := agg2 h
    simp [Instr.sameBits, ptr_bits hm hx.1.2 a1, int_bits hx.2 a2]
  · simp only [Bool.and_eq_true] at hx
    obtain ⟨u1, u2, u3, u4, rfl, a1, a2, a3, a4⟩ := agg4 h
    simp [Instr.sameBits, ptr_bits hm hx.1.1.1.2 a1, int_bits hx.1.1.2 a2, ptr_bits hm hx.1.2 a3, int_bits hx.2 a4]
  · cases hx
theorem key_stays {m : Nat → Nat} {T : TypeId} {x : D} {u : Value} (hm : MOK m w) (hx : keyD P T x = true) (h : PV m w x u) : (Instr.keyThatStays u u).run P w = .ok u w := by
  simp [Instr.keyThatStays, key_bits hm hx h]

/-! ### a key may be asked for -/
theorem check_leaf {T : TypeId} {u : Value} {e : Bool} {n : Nat} (h : ptrT P T = true ∨ intT P T = true) : (Instr.checkKey e (n + 1) T u).run P w = .ok () w := by
  unfold Instr.checkKey
  have : ∃ d, P.underlying T = some d ∧ ((∃ e, d = .pointer e) ∨ ∃ k, d = .int k) := by
    rcases h with h | h
    · obtain ⟨e, _, hu, _⟩ := ptrT_ok h; exact ⟨_, hu, .inl ⟨_, rfl⟩⟩
    · obtain ⟨k, hu⟩ := intT_ok h; exact ⟨_, hu, .inr ⟨_, rfl⟩⟩
  obtain ⟨d, hu, ⟨e', rfl⟩ | ⟨k, rfl⟩⟩ := this
  · simp only [Sem.run_bind, run_under hu, Result.andThen]; rfl
  · simp only [Sem.run_bind, run_under hu, Result.andThen]; rfl
theorem check_two {T : TypeId} {f g : Field} {fs : Array Field} {xs : Array Value} {u1 u2 : Value} {e : Bool} {n : Nat} (hu : P.underlying T = some (.struct fs)) (hl : fs.toList = [f, g]) (hf : f.name ≠ "_") (hg : g.name ≠ "_")
    (p1 : (part f.type xs f.offset).run P w = .ok u1 w) (p3 : (part g.type xs g.offset).run P w = .ok u2 w) (c1 : (Instr.checkKey e n f.type u1).run P w = .ok () w) (c2 : (Instr.checkKey e n g.type u2).run P w = .ok () w) :
    (Instr.checkKey e (n + 1) T (.agg xs)).run P w = .ok () w := by
  unfold Instr.checkKey
  simp only [Sem.run_bind, run_under hu, Result.andThen]
  rw [← Array.forIn_toList, hl]
  simp [hf, hg, p1, p3, c1, c2]

theorem check_span {T : TypeId} {u1 u2 : Value} {e : Bool} {n : Nat} (hT : spanT P T = true) : (Instr.checkKey e (n + 2) T (.agg #[u1, u2])).run P w = .ok () w := by
  obtain ⟨fs, f, g, hu, hl, hf, hg, hpt, hit, hf0, hg1, hst, _, _⟩ := spanT_ok hT
  obtain ⟨d1, k1, k2, k3⟩ := ptrT_under hpt
  obtain ⟨d2, l1, l2, l3⟩ := intT_under hit
  exact check_two hu hl hf hg (run_part_leaf k1 k2 k3 (u := u1) (by rw [hf0]; rfl)) (run_part_leaf l1 l2 l3 (u := u2) (by rw [hg1]; rfl)) (check_leaf (.inl hpt)) (check_leaf (.inr hit))
theorem check_key {m : Nat → Nat} {T : TypeId} {x : D} {u : Value} {e : Bool} (hx : keyD P T x = true) (h : PV m w x u) : (Instr.checkKey e 10000 T u).run P w = .ok () w := by
  unfold keyD at hx
  split at hx
  · simp only [Bool.and_eq_true] at hx
    obtain ⟨u1, u2, rfl, a1, a2⟩ := agg2 h
    exact check_span (n := 9998) hx.1.1
  · simp only [Bool.and_eq_true] at hx
    obtain ⟨u1, u2, u3, u4, rfl, a1, a2, a3, a4⟩ := agg4 h
    obtain ⟨fs, f, g, hu, hl, hf, hg, hpt, hit, hf0, hg1, hst⟩ := metT_ok hx.1.1.1.1
    obtain ⟨fs1, _, _, hu1, _, _, _, _, _, _, _, _, hs1, _⟩ := spanT_ok hpt
    obtain ⟨fs2, _, _, hu2, _, _, _, _, _, _, _, _, hs2, _⟩ := spanT_ok hit
    exact check_two (n := 9999) hu hl hf hg (u1 := .agg #[u1, u2]) (u2 := .agg #[u3, u4]) (by rw [run_part_struct hu1 hs1, hf0]; rfl) (by rw [run_part_struct hu2 hs2, hg1]; rfl) (check_span (n := 9997) hpt) (check_span (n := 9997) hit)
  · cases hx

/-- The machine looks for a key. -/
theorem find_key {m : Nat → Nat} {T : TypeId} {x : D} {u : Value} (hm : MOK m w) (hx : keyD P T x = true) (h : PV m w x u) : ∀ {ks : List D} {es : List MapEntry} (i : Nat), (∀ y ∈ ks, keyD P T y = true) → es.length = ks.length → (∀ j (h : j < ks.length) (h' : j < es.length), PV m w ks[j] es[j].key) →
    ((Instr.findAsking T u es i).run P w = .ok none w) ∨ ∃ j, ∃ hj : j < es.length, es[j].key = u ∧ (Instr.findAsking T u es i).run P w = .ok (some (i + j, es[j].val)) w
  | [], es, i, hks, hl, hk => by
    have : es = [] := by simpa using hl
    subst this
    exact .inl rfl
  | y :: ks, [], i, hks, hl, hk => by simp at hl
  | y :: ks, e :: es, i, hks, hl, hk => by
    obtain ⟨b, hb, hbe⟩ := key_eq hm hx (hks y (by simp)) h (hk 0 (by simp) (by simp))
    have hb : (Op.equal T u e.key).run P w = .ok b w := hb
    cases b with
    | true =>
      refine .inr ⟨0, by simp, (hbe rfl).symm, ?_⟩
      simp [Instr.findAsking, hb]
    | false =>
      rcases find_key hm hx h (i + 1) (fun z hz => hks z (by simp [hz])) (by simpa using hl) (fun j hj hj' => hk (j + 1) (by simpa using hj) (by simpa using hj')) with h1 | ⟨j, hj, h1, h2⟩
      · exact .inl (by simp [Instr.findAsking, hb, h1])
      · exact .inr ⟨j + 1, by simpa using hj, by simpa using h1, by simp [Instr.findAsking, hb, h2]; omega⟩

/-- A map type with such keys: the keys' type, the elements'. -/
def mapKey (P : Program) (T : TypeId) : Option (TypeId × TypeId) :=
  match P.underlying T with
  | some (.map k e) => if spanT P k || metT P k then some (k, e) else none
  | _ => none
theorem mapKey_ok {T k e : TypeId} (h : Sh.mapKey P T = some (k, e)) : P.underlying T = some (.map k e) ∧ ∃ fs, P.underlying k = some (.struct fs) := by
  unfold Sh.mapKey at h
  split at h
  · rename_i k' e' hu
    split at h
    · rename_i hk
      simp only [Option.some.injEq, Prod.mk.injEq] at h; obtain ⟨rfl, rfl⟩ := h
      refine ⟨hu, ?_⟩
      simp only [Bool.or_eq_true] at hk
      rcases hk with hk | hk
      · obtain ⟨fs, _, _, h, _⟩ := spanT_ok hk; exact ⟨fs, h⟩
      · obtain ⟨fs, _, _, h, _⟩ := metT_ok hk; exact ⟨fs, h⟩
    · cases h
  · cases h

theorem run_find_key {m : Nat → Nat} {T : TypeId} {fs : Array Field} {x : D} {u : Value} (hT : P.underlying T = some (.struct fs)) (hm : MOK m w) (hx : keyD P T x = true) (h : PV m w x u) {ks : List D} {es : Array MapEntry} (hks : ∀ y ∈ ks, keyD P T y = true) (hl : es.size = ks.length) (hk : ∀ j (h : j < ks.length) (h' : j < es.size), PV m w ks[j] es[j].key) :
    ((Instr.findKey T u es.toList).run P w = .ok none w) ∨ ∃ j, ∃ hj : j < es.size, es[j].key = u ∧ (Instr.findKey T u es.toList).run P w = .ok (some (j, es[j].val)) w := by
  have hnow : Instr.findNow (.struct fs) u es.toList 0 = some none ∧ es.toList = [] ∨ Instr.findNow (.struct fs) u es.toList 0 = none := by
    cases es.toList with
    | nil => exact .inl ⟨rfl, rfl⟩
    | cons e es => exact .inr (by simp [Instr.findNow, Instr.sameNow])
  rcases hnow with ⟨h1, _⟩ | h1
  · exact .inl (by simp [Instr.findKey, run_under hT, h1])
  · have e1 : (Instr.findKey T u es.toList).run P w = (Instr.findAsking T u es.toList 0).run P w := by simp [Instr.findKey, run_under hT, h1]
    rw [e1]
    rcases find_key hm hx h (es := es.toList) 0 hks (by simpa using hl) (fun j hj hj' => by simpa using hk j hj (by simpa using hj')) with h2 | ⟨j, hj, h2, h3⟩
    · exact .inl h2
    · exact .inr ⟨j, by simpa using hj, by simpa using h2, by simpa using h3⟩

/-- A look-up by such a key: whatever is found has a key that is not known to be another one. -/
theorem does_lookup_key {T k e : TypeId} {x y : Operand} {ok : Bool} {b : Nat} {ks : List D} {vs : List SV} {t : SV} {d : D} (ho : o.op = .lookup T x y ok) (h : Rel m0 w0 G E S F a w) (hcl : S.gl cleanAt ≠ none) (hx : evalO E x = some (.mv b)) (hb : S.B b = some [.mc ks vs])
    (hy : evalO E y = some t) (htd : t.toD = some d) (hT : Sh.mapKey P T = some (k, e)) (hd : keyD P k d = true) (hks : ∀ y ∈ ks, keyD P k y = true) {z : SV} (hz : lookR P e none ok = some z) :
    Does P m0 w0 G E S F a w o z S F ∨ ∃ (j : Nat) (hj : j < ks.length) (hv : j < vs.length), ¬ Apart ks[j] d ∧ ∃ r, lookR P e (some vs[j]) ok = some r ∧ Does P m0 w0 G E S F a w o r S F := by
  obtain ⟨B, hg, hX⟩ := (evalO_ok h hx).mv_inv
  obtain ⟨es, h1, h2, h3, h4, h5, h6⟩ := h.mapOf hb hg
  obtain ⟨hu, fs, hks'⟩ := mapKey_ok hT
  have hY := (evalO_ok h hy).toD htd
  have hm := h.more.clean hcl
  rcases run_find_key hks' hm hd hY hks h2 h5 with hf | ⟨j, hj, hkey, hf⟩
  · left
    simp only [lookR, Option.map_eq_some_iff] at hz
    obtain ⟨z', hz, rfl⟩ := hz
    obtain ⟨u, hzu, hzv⟩ := zeroS_ok (G := G) (w := w) hz
    cases ok with
    | false =>
      refine .quiet h (u := u) ?_ (by simpa using hzv)
      simp only [execOp, ho, hX, Instr.lookup]
      simp [run_under hu, MapKept.run_getObj_map h1, check_key hd hY, hf, run_zero hzu]
    | true =>
      refine .quiet h (u := .tuple #[u, .bool false]) ?_ (by
        have := VR.tu2 hzv (VR.d (G := G) (w := w) (PV.v (x := .bool false) rfl))
        simpa using this)
      simp only [execOp, ho, hX, Instr.lookup]
      simp [run_under hu, MapKept.run_getObj_map h1, check_key hd hY, hf, run_zero hzu]
  · right
    refine ⟨j, by omega, by omega, fun hap => ?_, _, rfl, ?_⟩
    · have := h5 j (by omega) hj
      rw [hkey] at this
      exact hap.no this hY
    · have hval := h6 j (by omega) hj
      cases ok with
      | false =>
        refine .quiet h (u := es[j].val) ?_ (by simpa using hval)
        simp only [execOp, ho, hX, Instr.lookup]
        simp [run_under hu, MapKept.run_getObj_map h1, check_key hd hY, hf]
      | true =>
        refine .quiet h (u := .tuple #[es[j].val, .bool true]) ?_ (by
          have := VR.tu2 hval (VR.d (G := G) (w := w) (PV.v (x := .bool true) rfl))
          simpa using this)
        simp only [execOp, ho, hX, Instr.lookup]
        simp [run_under hu, MapKept.run_getObj_map h1, check_key hd hY, hf]

/-- Such a key is given a value. -/
theorem does_update_key {T k e : TypeId} {x y z : Operand} {b : Nat} {ks : List D} {vs : List SV} {t v : SV} {d : D} (ho : o.op = .mapUpdate T x y z) (h : Rel m0 w0 G E S F a w) (hcl : S.gl cleanAt ≠ none) (hx : evalO E x = some (.mv b)) (hb : S.B b = some [.mc ks vs])
    (hy : evalO E y = some t) (htd : t.toD = some d) (hz : evalO E z = some v) (hT : Sh.mapKey P T = some (k, e)) (hd : keyD P k d = true) (hks : ∀ y ∈ ks, keyD P k y = true) :
    Does P m0 w0 G E S F a w o (.d (.v undef)) (S.set b [.mc (ks ++ [d]) (vs ++ [v])]) F ∨ ∃ (j : Nat) (hj : j < ks.length), ¬ Apart ks[j] d ∧ Does P m0 w0 G E S F a w o (.d (.v undef)) (S.set b [.mc ks (vs.set j v)]) F := by
  obtain ⟨B, hg, hX⟩ := (evalO_ok h hx).mv_inv
  obtain ⟨es, h1, h2, h3, h4, h5, h6⟩ := h.mapOf hb hg
  obtain ⟨hu, fs, hks'⟩ := mapKey_ok hT
  have hY := (evalO_ok h hy).toD htd
  generalize hyu : a.eval y = uk at hY
  have hV := evalO_ok h hz
  generalize hz' : a.eval z = uv at hV
  have hm := h.more.clean hcl
  rcases run_find_key hks' hm hd hY hks h2 h5 with hf | ⟨j, hj, hkey, hf⟩
  · left
    obtain ⟨r1, f⟩ := h.set_obj hb hg (o' := .map (es.push { key := uk, val := uv, born := es.size }) (es.size + 1)) (cs' := [.mc (ks ++ [d]) (vs ++ [v])]) (fun _ _ _ e => by cases e) (fun W f hW => ObjR.push hW h2 h3 h4 (fun j hj hj' => (h5 j hj hj').fut f) (fun j hj hj' => (h6 j hj hj').fut f) (hY.fut f) (hV.fut f)) rfl
    refine ⟨_, undef, _, G, ?_, .inr ⟨rfl, rfl⟩, .d (.v rfl), r1, f⟩
    simp only [execOp, ho, hX, hyu, hz', Instr.mapUpdate]
    simp [run_under hu, MapKept.run_getObj_map h1, check_key hd hY, hf, MapKept.run_setObj_map _ h1]
  · right
    refine ⟨j, by omega, fun hap => ?_, ?_⟩
    · have := h5 j (by omega) hj
      rw [hkey] at this
      exact hap.no this hY
    · obtain ⟨r1, f⟩ := h.set_obj hb hg (o' := .map (es.modify j fun e => { e with key := uk, val := uv }) es.size) (cs' := [.mc ks (vs.set j v)]) (fun _ _ _ e => by cases e) (fun W f hW => ObjR.modify hj hW h2 h3 h4 (fun j hj hj' => (h5 j hj hj').fut f) (fun j hj hj' => (h6 j hj hj').fut f) (fun _ => rfl) hkey.symm (hV.fut f)) rfl
      refine ⟨_, undef, _, G, ?_, .inr ⟨rfl, rfl⟩, .d (.v rfl), r1, f⟩
      simp only [execOp, ho, hX, hyu, hz', Instr.mapUpdate]
      simp [run_under hu, MapKept.run_getObj_map h1, check_key hd hY, hf, hj, hkey, key_stays hm hd hY, MapKept.run_setObj_map _ h1]

/-- Two that cannot be the same are not. -/
theorem does_eql_apart {T T2 : TypeId} {x y : Operand} {s t : SV} {d d' : D} (ho : o.op = .binOp .eql T x y T2) (h : Rel m0 w0 G E S F a w) (hcl : S.gl cleanAt ≠ none) (hx : evalO E x = some s) (hy : evalO E y = some t) (hs : s.toD = some d) (ht : t.toD = some d')
    (hT : spanT P T = true) (hd : keyD P T d = true) (hd' : keyD P T d' = true) (hap : Apart d d') : Does P m0 w0 G E S F a w o (.d (.v (.bool false))) S F := by
  have hX := (evalO_ok h hx).toD hs
  have hY := (evalO_ok h hy).toD ht
  obtain ⟨b, hb, hbe⟩ := key_eq (h.more.clean hcl) hd hd' hX hY
  obtain ⟨_, _, _, _, _, _, _, _, _, _, _, _, _, hgd⟩ := spanT_ok hT
  have shape : ∀ {d : D} {u : Value}, keyD P T d = true → PV G.mark w d u → ∃ us, u = .agg us := fun {d u} hd hp => by
    unfold keyD at hd
    split at hd
    · obtain ⟨u1, u2, rfl, _⟩ := agg2 hp; exact ⟨_, rfl⟩
    · obtain ⟨u1, u2, u3, u4, rfl, _⟩ := agg4 hp; exact ⟨_, rfl⟩
    · cases hd
  have hbf : b = false := by
    cases b with
    | false => rfl
    | true => rw [hbe rfl] at hX; exact (hap.no hX hY).elim
  subst hbf
  generalize hu : a.eval x = u at *
  generalize hv : a.eval y = v at *
  obtain ⟨us, rfl⟩ := shape hd hX
  obtain ⟨vs, rfl⟩ := shape hd' hY
  refine .quiet h (u := .bool false) ?_ (.d (.v rfl))
  have h1 : (eqGuard .eql T x y (.agg us) (.agg vs)).run P w = .ok () w := run_eqGuard_agg w .eql T x y us vs hgd
  have h2 : (binOp .eql T (.agg us) (.agg vs)).run P w = .ok (.bool false) w := by
    rw [run_eql_struct]
    have hb : (Op.equalIn 10000 T (.agg us) (.agg vs)).run P w = .ok false w := hb
    rw [hb]; rfl
  simp only [execOp, ho, Sem.run_bind, hu, hv, h1, h2, Result.andThen]
  rfl
/-- A row is copied over the begin of a variable's. -/
theorem does_copy {T T2 e : TypeId} {sz b off n m : Nat} {x y : Operand} {cs : List SV} {t : SV} {ds : List D} (ho : o.op = .call { callee := .builtin .copy, args := #[x, y], argTypes := #[T, T2] }) (h : Rel m0 w0 G E S F a w) (hx : evalO E x = some (.os b off n)) (hb : S.B b = some cs)
    (hy : evalO E y = some t) (ht : rowS t = some (ds, m)) (hu : P.underlying T = some (.slice e)) (hs : szOf P e = some sz) (hle : m ≤ n) (hlen : off + m * sz ≤ cs.length) (hds : ds.length = m * sz) (hpos : 0 < m * sz) :
    Does P m0 w0 G E S F a w o (.d (.v (.int .i64 m))) (S.set b (cs.take off ++ ds.map .d ++ cs.drop (off + m * sz))) F := by
  obtain ⟨B, c, hg, hc, hX⟩ := (evalO_ok h hx).os_inv
  obtain ⟨By, oy, cy, hY, _, vs, hvl, hvc, hvv⟩ := (rowS_ok ht (evalO_ok h hy)).cells (by omega)
  obtain ⟨B', us, T0, k1, k2, g3, g4, g5, gu, g6⟩ := h.box b cs hb (h.boxOf hb hg)
  obtain rfl : B = B' := Option.some.inj (hg.symm.trans k1)
  have hvl2 : vs.length = m * sz := by omega
  have hv1 : ∀ u ∈ vs, u.oneCell' = true := fun u hu => by
    obtain ⟨j, hj, rfl⟩ := List.getElem_of_mem hu
    obtain ⟨g1, g2⟩ := hvv j (by omega) hj
    exact g2.one g1
  have hst := run_storeCells_fr (P := P) B off T0.1 T0.2 vs 0 us w k2 gu (by omega) hv1
  rw [Nat.add_zero] at hst
  have hfc := run_firstCells_some (P := P) w sz m ⟨By, oy, none⟩ m cy vs hvl2 (fun j v hj => by rw [add_off]; exact (hvc j v hj).2)
  obtain ⟨r1, f⟩ := h.set_box hb hg k2 (us' := (us.toList.take off ++ vs ++ us.toList.drop (off + vs.length)).toArray) (cs' := cs.take off ++ ds.map .d ++ cs.drop (off + m * sz)) (by simp; omega) (by simp; omega) (fun W G' f j hj hj' => by
    have := three_rel (R := fun s u => s.cell = true ∧ VR G' W s u) (cs := cs) (us := us.toList) (ms := ds.map .d) (ns := vs) (off := off) (n := m * sz) (by simpa using g3) (by simpa using hds) hvl2 hlen
      (fun j hj hj' => ⟨(g6 j hj (by simpa using hj')).1, (g6 j hj (by simpa using hj')).2.fut f⟩) (fun j hj hj' => by
        simp only [List.getElem_map]
        exact ⟨(hvv j (by simpa using hj) hj').1, .d ((hvv j (by simpa using hj) hj').2.fut f)⟩) j hj (by simpa [hvl2] using hj')
    simpa [hvl2] using this)
  refine ⟨_, _, _, G, ?_, .inl rfl, .d (.v (x := .int .i64 m) rfl), r1, f⟩
  have hmin : min m n = m := Nat.min_eq_left hle
  simp only [execOp, ho]
  simp [resolve, invoke, builtin, Builtin.copy_, hX, hY, run_under hu, Builtin.lenOf, hmin, run_size hs, hfc, hst, goInt]
end
end Go.Sh
