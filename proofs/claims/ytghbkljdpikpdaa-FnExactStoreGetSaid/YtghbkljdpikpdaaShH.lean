/- THE SHADOW, 8: a region's operations as a proposition without machine, in the text's order and in any order that the program's text lets in. Over any program. -/
import Derived.Test.YtghbkljdpikpdaaShG
set_option linter.unusedVariables false
set_option linter.unusedSimpArgs false
namespace Go.Sh
open Go.RowKit (Below)

section
variable {P : Program} {E E' : Env} {S S' : St}

/-! ### what is left to show of a region -/
inductive CallK where
  | fn (g : FuncId) (xs : List Operand)
  | inv (x : Operand) (name : String) (xs : List Operand)
  | dyn (x : Operand) (xs : List Operand)
/-- A call of a function of the program, by its number or behind an interface. -/
def callOf : Op → Option CallK
  | .call { callee := .value (.func g), args := xs, .. } => some (.fn g xs.toList)
  | .call { callee := .invoke x name, args := xs, .. } => some (.inv x name xs.toList)
  | .call { callee := .value (.tmp t), args := xs, .. } => some (.dyn (.tmp t) xs.toList)
  | _ => none

theorem callOf_fn {op : Op} {g : FuncId} {xs : List Operand} (h : callOf op = some (.fn g xs)) : ∃ ts, op = .call { callee := .value (.func g), args := xs.toArray, argTypes := ts } := by
  unfold callOf at h
  split at h
  · rename_i g' ys ts; simp only [Option.some.injEq, CallK.fn.injEq] at h; obtain ⟨rfl, rfl⟩ := h; exact ⟨ts, by simp⟩
  · cases h
  · cases h
  · cases h
theorem callOf_inv {op : Op} {x : Operand} {name : String} {xs : List Operand} (h : callOf op = some (.inv x name xs)) : ∃ ts, op = .call { callee := .invoke x name, args := xs.toArray, argTypes := ts } := by
  unfold callOf at h
  split at h
  · cases h
  · rename_i x' n' ys ts; simp only [Option.some.injEq, CallK.inv.injEq] at h; obtain ⟨rfl, rfl, rfl⟩ := h; exact ⟨ts, by simp⟩
  · cases h
  · cases h
theorem callOf_dyn {op : Op} {x : Operand} {xs : List Operand} (h : callOf op = some (.dyn x xs)) : ∃ ts, op = .call { callee := .value x, args := xs.toArray, argTypes := ts } := by
  unfold callOf at h
  split at h
  · cases h
  · cases h
  · rename_i t ys ts; simp only [Option.some.injEq, CallK.dyn.injEq] at h; obtain ⟨rfl, rfl⟩ := h; exact ⟨ts, by simp⟩
  · cases h

/-! ### folds -/
/-- f j for each j of L below n, in order. -/
def foldF {X : Type} (f : Nat → X → X) (L : Nat → Bool) : Nat → X → X
  | 0, x => x
  | n + 1, x => if L n = true then f n (foldF f L n x) else foldF f L n x

theorem foldF_congr {X : Type} {f : Nat → X → X} {L M : Nat → Bool} : ∀ {n : Nat} {x : X}, (∀ j, j < n → (∀ y, f j y = y) ∨ L j = M j) → foldF f L n x = foldF f M n x
  | 0, x, h => rfl
  | n + 1, x, h => by
    have ih := foldF_congr (x := x) fun j hj => h j (Nat.lt_succ_of_lt hj)
    simp only [foldF]
    rcases h n (Nat.lt_succ_self n) with h1 | h1
    · rw [ih]
      by_cases a : L n = true <;> by_cases b : M n = true <;> simp [a, b, h1]
    · rw [h1, ih]

theorem foldF_insert {X : Type} {f : Nat → X → X} {L : Nat → Bool} {i : Nat} : ∀ {n : Nat} {x : X}, i < n → L i = false → (∀ j, i < j → j < n → L j = true → ∀ y, f j (f i y) = f i (f j y)) →
    foldF f (fun j => L j || j == i) n x = f i (foldF f L n x)
  | 0, x, h, _, _ => by omega
  | n + 1, x, h, hi, hc => by
    simp only [foldF]
    by_cases e : n = i
    · subst e
      have : foldF f (fun j => L j || j == n) n x = foldF f L n x := foldF_congr fun j hj => .inr (by simp; omega)
      rw [if_pos (by simp), if_neg (by simp [hi]), this]
    · have ih := foldF_insert (x := x) (show i < n by omega) hi (fun j h1 h2 => hc j h1 (by omega))
      rw [ih]
      by_cases a : L n = true
      · rw [if_pos (by simp [a]), if_pos a]
        exact hc n (by omega) (by omega) a _
      · rw [if_neg (by simp [a]; omega), if_neg a]

/-! ### when any order will do -/
/-- Ahead of each operation, as a number's bits: the operations that come before it in any order. -/
def maskOf (ms : List Nat) (o : Oper) : Nat := o.after.toList.foldl (fun s e => if Region.binds .any e = true then s ||| 2 ^ e.on ||| ms.getD e.on 0 else s) 0
def masksFrom : List Nat → List Oper → List Nat
  | ms, [] => ms
  | ms, o :: l => masksFrom (ms ++ [maskOf ms o]) l
def masks (ops : List Oper) : List Nat := masksFrom [] ops

theorem masksFrom_get : ∀ (l : List Oper) (ms : List Nat), (∀ j, j < ms.length → (masksFrom ms l).getD j 0 = ms.getD j 0) ∧
    ∀ k (h : k < l.length), ∃ ps : List Nat, ps.length = ms.length + k ∧ (∀ j, j < ps.length → (masksFrom ms l).getD j 0 = ps.getD j 0) ∧ (masksFrom ms l).getD (ms.length + k) 0 = maskOf ps l[k]
  | [], ms => ⟨fun j hj => rfl, fun k h => by simp at h⟩
  | o :: l, ms => by
    obtain ⟨h1, h2⟩ := masksFrom_get l (ms ++ [maskOf ms o])
    have e1 : ∀ j, j < ms.length → (ms ++ [maskOf ms o]).getD j 0 = ms.getD j 0 := fun j hj => by
      rw [List.getD_eq_getElem?_getD, List.getD_eq_getElem?_getD, List.getElem?_append_left hj]
    refine ⟨fun j hj => ?_, fun k hk => ?_⟩
    · simp only [masksFrom]
      rw [h1 j (by simp; omega), e1 j hj]
    · cases k with
      | zero =>
        refine ⟨ms, by simp, fun j hj => ?_, ?_⟩
        · simp only [masksFrom]
          rw [h1 j (by simp; omega), e1 j hj]
        · simp only [masksFrom, Nat.add_zero]
          rw [h1 ms.length (by simp)]
          simp
      | succ k =>
        obtain ⟨ps, p1, p2, p3⟩ := h2 k (by simpa using hk)
        refine ⟨ps, by simp at p1; omega, fun j hj => by simp only [masksFrom]; exact p2 j hj, ?_⟩
        simp only [masksFrom, List.getElem_cons_succ]
        rw [← p3]
        simp [Nat.add_assoc, Nat.add_comm 1]

theorem maskOf_bit {ms : List Nat} {o : Oper} {j : Nat} (h : (maskOf ms o).testBit j = true) : ∃ e ∈ o.after.toList, Region.binds .any e = true ∧ (e.on = j ∨ (ms.getD e.on 0).testBit j = true) := by
  unfold maskOf at h
  have key : ∀ (l : List Edge) (s : Nat), (l.foldl (fun s e => if Region.binds .any e = true then s ||| 2 ^ e.on ||| ms.getD e.on 0 else s) s).testBit j = true → s.testBit j = true ∨ ∃ e ∈ l, Region.binds .any e = true ∧ (e.on = j ∨ (ms.getD e.on 0).testBit j = true) := by
    intro l
    induction l with
    | nil => intro s hs; exact .inl hs
    | cons e l ih =>
      intro s hs
      rw [List.foldl_cons] at hs
      rcases ih _ hs with h1 | ⟨e', h1, h2⟩
      · split at h1
        · rename_i hb
          simp only [Nat.testBit_or, Bool.or_eq_true] at h1
          rcases h1 with (h1 | h1) | h1
          · exact .inl h1
          · rw [Nat.testBit_two_pow] at h1
            exact .inr ⟨e, List.mem_cons_self .., hb, .inl (by simpa using h1)⟩
          · exact .inr ⟨e, List.mem_cons_self .., hb, .inr h1⟩
        · exact .inl h1
      · exact .inr ⟨e', List.mem_cons_of_mem _ h1, h2⟩
  rcases key _ _ h with h1 | h1
  · simp at h1
  · exact h1

/-- Is j before i in any order? -/
def anc (ops : List Oper) (i j : Nat) : Bool := ((masks ops).getD i 0).testBit j

theorem anc_step {ops : List Oper} {i j : Nat} (hi : i < ops.length) (h : anc ops i j = true) : ∃ e ∈ (ops[i]).after.toList, Region.binds .any e = true ∧ (e.on = j ∨ (e.on < i ∧ anc ops e.on j = true)) := by
  unfold anc masks at h
  obtain ⟨ps, p1, p2, p3⟩ := (masksFrom_get ops []).2 i hi
  simp only [List.length_nil, Nat.zero_add] at p1 p3
  rw [p3] at h
  obtain ⟨e, h1, h2, h3⟩ := maskOf_bit h
  refine ⟨e, h1, h2, h3.imp id (fun h4 => ?_)⟩
  have hlt : e.on < ps.length := by
    rcases Nat.lt_or_ge e.on ps.length with h5 | h5
    · exact h5
    · rw [List.getD_eq_getElem?_getD, List.getElem?_eq_none h5] at h4
      simp at h4
  refine ⟨by omega, ?_⟩
  unfold anc masks
  rw [p2 _ hlt]
  exact h4

/-- What an operation does with the memory: it reads variables, writes one, makes one, makes or lengthens a tip, reads tips. -/
structure Mem where
  rB : Bool
  wB : Bool
  rT : Bool
  wT : Bool
  /-- it makes one of its own number alone -/
  own : Bool
def memOf : Op → Mem
  | .alloc _ | .box .. => ⟨false, true, false, false, true⟩
  | .makeSlice .. => ⟨false, true, false, true, true⟩
  | .convert .. => ⟨false, false, false, true, true⟩
  | .load .. => ⟨true, false, false, false, false⟩
  | .store .. => ⟨true, true, false, false, false⟩
  | .slice .. => ⟨false, false, true, false, false⟩
  | .call { callee := .builtin .append, .. } => ⟨true, true, true, true, false⟩
  | _ => ⟨false, false, false, false, false⟩

def looksAt (ops : Array Oper) (o : Oper) : List Nat :=
  (o.op.operands.toList.filterMap fun | .tmp t => some t | _ => none) ++
  (match o.guard with
   | some (g, _) => ((ops[g]?).bind (·.dst)).toList
   | none => [])

def isCall (op : Op) : Bool := (callOf op).isSome
def touches (op : Op) : Bool := (memOf op).rB || (memOf op).wB || (memOf op).rT || (memOf op).wT

/-- i and j are not to be told apart unless one is before the other in any order. -/
def cmp (ops : List Oper) (i j : Nat) : Bool := anc ops i j || anc ops j i
/-- The call may write: it stands in order with all calls and all that touches the memory. -/
def loudAt (ops : List Oper) (i : Nat) : Bool :=
  decide (i < ops.length) && (List.range ops.length).all fun j => j == i || cmp ops i j || !((ops[j]?).map fun o => isCall o.op || touches o.op).getD true

def clash (a b : Mem) : Bool :=
  (a.rB && b.wB) || (b.rB && a.wB) || (a.rT && b.wT) || (b.rT && a.wT) || (a.wB && b.wB && !(a.own && b.own)) || (a.wT && b.wT && !(a.own && b.own))

/-- The pointer by which an operation reads or writes a variable. -/
def addrX : Op → Option Operand
  | .load _ x => some x
  | .store _ x _ => some x
  | _ => none
def refOf : Option SV → Option Nat
  | some (.op b _) => some b
  | _ => none
/-- The variable that it reads or writes. -/
def addrB (E : Env) (op : Op) : Option Nat := match addrX op with | some x => refOf (evalO E x) | none => none
def apart : Option Nat → Option Nat → Prop
  | some b, some c => b ≠ c
  | _, _ => False
/-- Pairs that are told apart by what their pointers point at: an operation's number and the slot of its pointer. -/
abbrev Spl := List ((Nat × Nat) × (Nat × Nat))
def SepT : Spl → Env → Prop
  | [], _ => True
  | (x, y) :: l, E => apart (refOf (E x.2)) (refOf (E y.2)) ∧ SepT l E
theorem SepT.of : ∀ {sp : Spl} {E : Env}, SepT sp E → ∀ p ∈ sp, apart (refOf (E p.1.2)) (refOf (E p.2.2))
  | (x, y) :: l, E, h, p, hp => by
    rcases List.mem_cons.1 hp with e | hp
    · subst e; exact h.1
    · exact SepT.of h.2 p hp
/-- Pairs of which the first one's pointer points at a variable that was there before the region, and the second one makes a new one. -/
abbrev Old := List ((Nat × Nat) × Nat)
def below : Nat → Option Nat → Prop
  | n, some b => b < n
  | _, none => False
def OldT : Old → Nat → Env → Prop
  | [], _, _ => True
  | (x, _) :: l, n, E => below n (refOf (E x.2)) ∧ OldT l n E
theorem OldT.of : ∀ {ol : Old} {n : Nat} {E : Env}, OldT ol n E → ∀ p ∈ ol, below n (refOf (E p.1.2))
  | (x, y) :: l, n, E, h, p, hp => by
    rcases List.mem_cons.1 hp with e | hp
    · subst e; exact h.1
    · exact OldT.of h.2 p hp
def isNew : Op → Bool
  | .alloc _ | .box .. => true
  | _ => false
/-- The slot at the region's start that points at what slot t points at ahead of operation n. -/
def rootOf (ops : Array Oper) : Nat → Nat → Option Nat
  | 0, t => some t
  | n + 1, t => match ops[n]? with
    | none => none
    | some o => if o.dst = some t then (match o.guard, o.op with
        | none, .move (.tmp u) => rootOf ops n u
        | none, .fieldAddr _ (.tmp u) _ => rootOf ops n u
        | _, _ => none) else rootOf ops n t
def spAt (ops : Array Oper) (x : Nat × Nat) : Bool := match ops[x.1]? with
  | some o => match addrX o.op with
    | some (.tmp t) => decide (t < globalsAt) && rootOf ops x.1 t == some x.2
    | _ => false
  | none => false

def pairOk (opsA : Array Oper) (ops : List Oper) (sp : Spl) (ol : Old) (i j : Nat) : Bool :=
  match ops[i]?, ops[j]? with
  | some a, some b => !(a.dst.isSome && a.dst == b.dst) && (cmp ops i j || (!(b.dst.any fun d => (looksAt opsA a).contains d) && !(a.dst.any fun d => (looksAt opsA b).contains d) && (!clash (memOf a.op) (memOf b.op) || (sp.any fun p => p.1.1 == i && p.2.1 == j) || ol.any fun p => p.1.1 == i && p.2 == j || p.1.1 == j && p.2 == i)))
  | _, _ => true

/-- Any order will do. -/
def drawOk (P : Program) (ops : Array Oper) (sp : Spl) (ol : Old) : Bool :=
  P.follows .mixedOrders && (ops.toList.all fun o => match o.op with | .select .. => false | _ => true) &&
  ((List.range ops.size).all fun i => (((ops[i]?).map (·.after.toList)).getD []).all fun e => !Region.binds .any e || e.on < i) &&
  ((List.range ops.size).all fun i => (List.range i).all fun j => pairOk ops ops.toList sp ol i j) && (sp.all fun p => spAt ops p.1 && spAt ops p.2) && ol.all fun p => spAt ops p.1 && ((ops[p.2]?).map fun o => isNew o.op).getD false

/-! ### calls that make memory of their own -/
def isLoad : Op → Bool
  | .load .. => true
  | _ => false
/-- The slot at the region's start that points at what operation j reads or writes. -/
def rootAt (ops : Array Oper) (j : Nat) : Option Nat := match ops[j]? with
  | some o => match addrX o.op with
    | some (.tmp t) => if t < globalsAt then rootOf ops j t else none
    | _ => none
  | none => none
def rootFree (ops : Array Oper) (j : Nat) : Bool := match rootAt ops j with
  | some s => ops.toList.all fun o => !(o.dst == some s)
  | none => false
/-- The call stands in order with all calls and all that touches the memory, but for what makes variables and what reads through pointers that were there before. -/
def freeAt (ops : Array Oper) (i : Nat) : Bool :=
  decide (i < ops.size) && (List.range ops.size).all fun j => j == i || cmp ops.toList i j || !((ops[j]?).map fun o => isCall o.op || touches o.op).getD true || ((ops[j]?).map fun o => isNew o.op || (isLoad o.op && rootFree ops j)).getD false
/-- What reads beside the call: its variables must be older than the region. -/
def oldOf (ops : Array Oper) (i : Nat) : Old := (List.range ops.size).filterMap fun j => if (j == i || cmp ops.toList i j) = true then none else if ((ops[j]?).map fun o => isLoad o.op).getD false = true then (rootAt ops j).map fun s => ((j, s), i) else none
def drawLo (ops : Array Oper) (i : Nat) : Bool := if i < ops.size then loudAt ops.toList i else if i = ops.size then false else freeAt ops (i - (ops.size + 1))

/-- A test: what is left to show on either way. -/
def Br (b : Bool) (x y : Prop) : Prop := (b = true → x) ∧ (b = false → y)
/-- What a call of a region may be. loud: one that may write; free: one that makes memory of its own, whatever has been made beside it since the region began (base). -/
structure Lo where
  loud : Bool
  free : Prop
  base : Nat
  top : Nat
/-- A call that makes variables of its own alone. -/
structure OwnK (P : Program) (g : FuncId) (ss : List SV) (S : St) (base top : Nat) (r : SV) (fB : (Nat → Option (List SV)) → (Nat → Option (List SV))) (m : Nat) : Prop where
  call : ∀ S1 : St, S1.n = S.n → S1.nx = S.nx → S1.gl = S.gl → S1.md = S.md → S1.T = S.T → (∀ b, b < base → S1.B b = S.B b) → LCall P g ss S1 r { S1 with B := fB S1.B, nx := m }
  loc : ∀ B q cs, q < top → fB (upd B q cs) = upd (fB B) q cs
  keep : ∀ B b, b < top → fB B b = B b
  pw : ∀ B C b, B b = C b → fB B b = fB C b
/-- A call: of data alone, or one that may write, or one that makes memory of its own. -/
def Callv (lo : Lo) (P : Program) (g : FuncId) (ss : List SV) (S : St) (K : SV → St → Prop) : Prop :=
  (∃ ds r, toDs ss = some ds ∧ PCall P S.gl g ds r ∧ K (.d r) S) ∨ (lo.loud = true ∧ ∃ r S', LCall P g ss S r S' ∧ K r S') ∨
  (lo.free ∧ ∃ r fB m, OwnK P g ss S lo.base lo.top r fB m ∧ K r { S with B := fB S.B, nx := m })
def loAt (lo : Nat → Bool) (ops : Array Oper) (base i : Nat) (E : Env) : Lo := ⟨lo i, lo ops.size = false ∧ lo (ops.size + 1 + i) = true ∧ OldT (oldOf ops i) base E, base, base + ops.size⟩
/-- A call behind an interface. -/
def Invk (P : Program) (t : TypeId) (y : D) (name : String) (ss : List SV) (S : St) (K : SV → Prop) : Prop :=
  ∃ g ds r, methOf P t name = some g ∧ toDs ss = some ds ∧ PCall P S.gl g (y :: ds) r ∧ K (.d r)

/-- A slot that is there. -/
def dstOk (d : Option Nat) (n : Nat) : Bool := match d with | some k => decide (k < n) | none => true
theorem dstOk_ok {d : Option Nat} {n : Nat} (h : dstOk d n = true) : ∀ k, d = some k → k < n := by
  intro k e; subst e; simpa [dstOk] using h

def Op1 (r : Option (SV × Eff)) (K : SV → Eff → Prop) : Prop := match r with | some (s, e) => K s e | none => False
def ArgK (r : Option (List SV)) (K : List SV → Prop) : Prop := match r with | some ss => K ss | none => False
def RecK (r : Option SV) (K : TypeId → D → Prop) : Prop := match r with | some (.d (.ifc t y)) => K t y | _ => False
def FnK (r : Option SV) (K : FuncId → List SV → List SV → Prop) : Prop := match r.bind fnS with | some (g, fs, cs) => K g fs cs | none => False
def Want (r : Option Bool) (x y : Prop) : Prop := match r with | some b => Br b x y | none => False

/-- The operations l, the first of which is number i: what is left to show. -/
def VL (lo : Nat → Bool) (P : Program) (ops : Array Oper) (base : Nat) : Nat → List Oper → Env → St → (Env → St → Prop) → Prop
  | _, [], E, S, Q => Q E S
  | i, o :: l, E, S, Q => dstOk o.dst S.n = true ∧ Want (wantS ops E o) (match callOf o.op with
        | some (.fn g xs) => ArgK (argsS E xs) (fun ss => Callv (loAt lo ops base i E) P g ss S (fun r S' => VL lo P ops base (i + 1) l (E.put o.dst r) S' Q))
        | some (.inv x name xs) => RecK (evalO E x) (fun t y => ArgK (argsS E xs) (fun ss => Invk P t y name ss S (fun r => VL lo P ops base (i + 1) l (E.put o.dst r) S Q)))
        | some (.dyn x xs) => FnK (evalO E x) (fun g fs cs => ArgK (argsS E xs) (fun ss => Callv ⟨lo ops.size, False, 0, 0⟩ P g (fs ++ ss ++ cs) S (fun r S' => VL lo P ops base (i + 1) l (E.put o.dst r) S' Q)))
        | none => Op1 (evalOp P E S (base + i) o) (fun s e => VL lo P ops base (i + 1) l (E.put o.dst s) (S.app (base + i) e) Q) ∨ (lo ops.size = true ∧ evalX P E S (base + i) o (fun s e => VL lo P ops base (i + 1) l (E.put o.dst s) (S.app (base + i) e) Q))) (VL lo P ops base (i + 1) l (E.put o.dst (.d (.v undef))) S Q)

/-! ### the trace of a region -/
/-- What an operation came to: was it wanted, its result, what it did to the state. -/
structure Out where
  w : Bool
  s : SV
  fB : (Nat → Option (List SV)) → (Nat → Option (List SV))
  fT : (Nat → Option (Nat × Nat)) → (Nat → Option (Nat × Nat))
  fx : Nat → Nat
def St.out (S : St) (o : Out) : St := { S with B := o.fB S.B, T := o.fT S.T, nx := o.fx S.nx }

def effB (id : Nat) : Eff → (Nat → Option (List SV)) → (Nat → Option (List SV))
  | .no, B => B
  | .new cs, B => upd B id cs
  | .set b cs, B => upd B b cs
  | .tip _ _ _, B => B
  | .mov b cs, B => upd (fun x => if x = b then none else B x) id cs
def effT : Eff → (Nat → Option (Nat × Nat)) → (Nat → Option (Nat × Nat))
  | .tip i k sz, T => upd T i (k, sz)
  | _, T => T
theorem app_out (id : Nat) (e : Eff) (w : Bool) (s : SV) : S.out ⟨w, s, effB id e, effT e, fun x => x⟩ = S.app id e := by cases e <;> rfl

/-- How an operation that is wanted came to what it came to. -/
inductive How (lo : Lo) (P : Program) (id : Nat) (o : Oper) (E : Env) (S : St) : Out → Prop
  | op {s : SV} {e : Eff} (hc : callOf o.op = none) (h : evalOp P E S id o = some (s, e)) : How lo P id o E S ⟨true, s, effB id e, effT e, fun x => x⟩
  | call {g : FuncId} {xs : List Operand} {ss : List SV} {ds : List D} {r : D} (hc : callOf o.op = some (.fn g xs)) (ha : argsS E xs = some ss) (hd : toDs ss = some ds) (h : PCall P S.gl g ds r) : How lo P id o E S ⟨true, .d r, fun x => x, fun x => x, fun x => x⟩
  | inv {x : Operand} {name : String} {xs : List Operand} {ss : List SV} {t : TypeId} {y : D} {ds : List D} {g : FuncId} {r : D} (hc : callOf o.op = some (.inv x name xs)) (hx : evalO E x = some (.d (.ifc t y))) (ha : argsS E xs = some ss) (hm : methOf P t name = some g) (hd : toDs ss = some ds) (h : PCall P S.gl g (y :: ds) r) :
      How lo P id o E S ⟨true, .d r, fun x => x, fun x => x, fun x => x⟩
  | dyn {x : Operand} {xs : List Operand} {s : SV} {fs cs ss : List SV} {ds : List D} {g : FuncId} {r : D} (hc : callOf o.op = some (.dyn x xs)) (hx : evalO E x = some s) (hf : fnS s = some (g, fs, cs)) (ha : argsS E xs = some ss) (hd : toDs (fs ++ ss ++ cs) = some ds) (h : PCall P S.gl g ds r) :
      How lo P id o E S ⟨true, .d r, fun x => x, fun x => x, fun x => x⟩
  | loud {g : FuncId} {xs : List Operand} {ss : List SV} {r : SV} {S' : St} (hl : lo.loud = true) (hc : callOf o.op = some (.fn g xs)) (ha : argsS E xs = some ss) (h : LCall P g ss S r S') : How lo P id o E S ⟨true, r, fun _ => S'.B, fun _ => S'.T, fun _ => S'.nx⟩
  | own {g : FuncId} {xs : List Operand} {ss : List SV} {r : SV} {fB : (Nat → Option (List SV)) → (Nat → Option (List SV))} {m : Nat} (hl : lo.free) (hc : callOf o.op = some (.fn g xs)) (ha : argsS E xs = some ss) (h : OwnK P g ss S lo.base lo.top r fB m) : How lo P id o E S ⟨true, r, fB, fun T => T, fun _ => m⟩

theorem How.opS {lo : Lo} {id : Nat} {o : Oper} {ot : Out} (h : How lo P id o E S ot) : OpS P id E S o ot.s (S.out ot) := by
  cases h with
  | op hc h => rw [app_out]; exact OpS.eval h
  | call hc ha hd h =>
    obtain ⟨ts, ho⟩ := callOf_fn hc
    exact OpS.call ho ha hd h
  | inv hc hx ha hm hd h =>
    obtain ⟨ts, ho⟩ := callOf_inv hc
    exact OpS.invoke ho hx hm ha hd h
  | dyn hc hx hf ha hd h =>
    obtain ⟨ts, ho⟩ := callOf_dyn hc
    exact OpS.dyn ho hx hf ha hd h
  | loud hl hc ha h =>
    rename_i g xs ss r S1
    obtain ⟨ts, ho⟩ := callOf_fn hc
    have e : S.out ⟨true, r, fun _ => S1.B, fun _ => S1.T, fun _ => S1.nx⟩ = S1 := by
      have k := h.2.1
      unfold St.out
      rw [← k.n, ← k.md, ← k.gl]
    rw [e]
    exact OpS.lcall ho ha h
  | own hl hc ha h =>
    obtain ⟨ts, ho⟩ := callOf_fn hc
    exact OpS.lcall ho ha (h.call S rfl rfl rfl rfl rfl fun _ _ => rfl)

/-- One operation of a region. -/
def Step1 (lo : Lo) (P : Program) (ops : Array Oper) (id : Nat) (o : Oper) (E : Env) (S : St) (ot : Out) : Prop :=
  dstOk o.dst S.n = true ∧ wantS ops E o = some ot.w ∧ (ot.w = true → How lo P id o E S ot) ∧ (ot.w = false → ot = ⟨false, .d (.v undef), fun x => x, fun x => x, fun x => x⟩)

def Tr (lo : Nat → Bool) (P : Program) (ops : Array Oper) (base : Nat) : Nat → List Oper → Env → St → List Out → Env → St → Prop
  | _, [], E, S, [], E', S' => E' = E ∧ S' = S
  | i, o :: l, E, S, ot :: r, E', S' => Step1 (loAt lo ops base i E) P ops (base + i) o E S ot ∧ Tr lo P ops base (i + 1) l (E.put o.dst ot.s) (S.out ot) r E' S'
  | _, _, _, _, _, _, _ => False

theorem out_skip : S.out ⟨false, .d (.v undef), fun x => x, fun x => x, fun x => x⟩ = S := rfl
theorem out_id (w : Bool) (s : SV) : S.out ⟨w, s, fun x => x, fun x => x, fun x => x⟩ = S := rfl

theorem VL.trace {lo : Nat → Bool} {ops : Array Oper} {base : Nat} : ∀ {l : List Oper} {i : Nat} {E : Env} {S : St} {Q : Env → St → Prop}, VL lo P ops base i l E S Q → lo ops.size = false → ∃ r E' S', Tr lo P ops base i l E S r E' S' ∧ Q E' S'
  | [], i, E, S, Q, h, _ => ⟨[], E, S, ⟨rfl, rfl⟩, h⟩
  | o :: l, i, E, S, Q, h, hlo => by
    unfold VL at h
    obtain ⟨hd, h⟩ := h
    cases hw : wantS ops E o with
    | none => rw [hw] at h; exact h.elim
    | some c =>
      rw [hw] at h
      obtain ⟨ht, hf⟩ := h
      cases c with
      | false =>
        obtain ⟨r, E', S', h1, h2⟩ := VL.trace (hf rfl) hlo
        exact ⟨⟨false, .d (.v undef), fun x => x, fun x => x, fun x => x⟩ :: r, E', S', ⟨⟨hd, hw, nofun, fun _ => rfl⟩, h1⟩, h2⟩
      | true =>
        have ht := ht rfl
        split at ht
        · rename_i g xs hc
          cases ha : argsS E xs with
          | none => rw [ha] at ht; exact ht.elim
          | some ss =>
            rw [ha] at ht
            rcases ht with ⟨ds, r0, hds, hp, hk⟩ | ⟨hl, r0, S1, hp, hk⟩ | ⟨hl, r0, fB, m, hp, hk⟩
            case inr.inr =>
              obtain ⟨r, E', S', h1, h2⟩ := VL.trace hk hlo
              exact ⟨⟨true, r0, fB, fun T => T, fun _ => m⟩ :: r, E', S', ⟨⟨hd, hw, fun _ => .own hl hc ha hp, nofun⟩, h1⟩, h2⟩
            · obtain ⟨r, E', S', h1, h2⟩ := VL.trace hk hlo
              exact ⟨⟨true, .d r0, fun x => x, fun x => x, fun x => x⟩ :: r, E', S', ⟨⟨hd, hw, fun _ => .call hc ha hds hp, nofun⟩, h1⟩, h2⟩
            · obtain ⟨r, E', S', h1, h2⟩ := VL.trace hk hlo
              have e : S.out ⟨true, r0, fun _ => S1.B, fun _ => S1.T, fun _ => S1.nx⟩ = S1 := by
                have k := hp.2.1
                unfold St.out
                rw [← k.n, ← k.md, ← k.gl]
              exact ⟨⟨true, r0, fun _ => S1.B, fun _ => S1.T, fun _ => S1.nx⟩ :: r, E', S', ⟨⟨hd, hw, fun _ => .loud hl hc ha hp, nofun⟩, by rw [e]; exact h1⟩, h2⟩
        · rename_i x name xs hc
          unfold RecK at ht
          split at ht
          · rename_i t y hx
            cases ha : argsS E xs with
            | none => rw [ha] at ht; exact ht.elim
            | some ss =>
              rw [ha] at ht
              obtain ⟨g, ds, r0, hm, hds, hp, hk⟩ := ht
              obtain ⟨r, E', S', h1, h2⟩ := VL.trace hk hlo
              exact ⟨⟨true, .d r0, fun x => x, fun x => x, fun x => x⟩ :: r, E', S', ⟨⟨hd, hw, fun _ => .inv hc hx ha hm hds hp, nofun⟩, h1⟩, h2⟩
          · exact ht.elim
        · rename_i x xs hc
          unfold FnK at ht
          cases hx : evalO E x with
          | none => rw [hx] at ht; exact ht.elim
          | some s =>
            rw [hx] at ht
            simp only [Option.bind_some] at ht
            cases hf : fnS s with
            | none => rw [hf] at ht; exact ht.elim
            | some gfc =>
              obtain ⟨g, fs, cs⟩ := gfc
              rw [hf] at ht
              simp only at ht
              cases ha : argsS E xs with
              | none => rw [ha] at ht; exact ht.elim
              | some ss =>
                rw [ha] at ht
                rcases ht with ⟨ds, r0, hds, hp, hk⟩ | ⟨hl, _⟩ | ⟨hl, _⟩
                case inr.inr => exact hl.elim
                · obtain ⟨r, E', S', h1, h2⟩ := VL.trace hk hlo
                  exact ⟨⟨true, .d r0, fun x => x, fun x => x, fun x => x⟩ :: r, E', S', ⟨⟨hd, hw, fun _ => .dyn hc hx hf ha hds hp, nofun⟩, h1⟩, h2⟩
                · have hl : lo ops.size = true := hl
                  rw [hlo] at hl; cases hl
        · rename_i hc
          have ht := ht.resolve_right (fun q => by rw [hlo] at q; cases q.1)
          cases he : evalOp P E S (base + i) o with
          | none => rw [he] at ht; exact ht.elim
          | some se =>
            obtain ⟨s, e⟩ := se
            rw [he] at ht
            obtain ⟨r, E', S', h1, h2⟩ := VL.trace ht hlo
            exact ⟨⟨true, s, effB (base + i) e, effT e, fun x => x⟩ :: r, E', S', ⟨⟨hd, hw, fun _ => .op hc he, nofun⟩, by rw [app_out]; exact h1⟩, h2⟩

theorem Tr.sound {lo : Nat → Bool} {ops : Array Oper} {base : Nat} {Q : Env → St → Prop} : ∀ {l : List Oper} {r : List Out} {i : Nat} {E : Env} {S : St} {E' : Env} {S' : St}, Tr lo P ops base i l E S r E' S' → Q E' S' → LS P ops base i l E S Q
  | [], [], i, E, S, E', S', h, hq => by obtain ⟨rfl, rfl⟩ := h; exact LS.nil hq
  | o :: l, ot :: r, i, E, S, E', S', h, hq => by
    obtain ⟨⟨hd, hw, ht, hf⟩, h2⟩ := h
    have hd := dstOk_ok hd
    cases hb : ot.w with
    | false =>
      have e := hf hb
      subst e
      exact LS.skip hw hd (Tr.sound h2 hq)
    | true =>
      rw [hb] at hw
      exact LS.cons hw hd (ht hb).opS (Tr.sound h2 hq)
  | [], _ :: _, _, _, _, _, _, h, _ => h.elim
  | _ :: _, [], _, _, _, _, _, h, _ => h.elim

theorem VL.sound {lo : Nat → Bool} {ops : Array Oper} {base : Nat} : ∀ {l : List Oper} {i : Nat} {E : Env} {S : St} {Q : Env → St → Prop}, VL lo P ops base i l E S Q → LS P ops base i l E S Q
  | [], i, E, S, Q, h => LS.nil h
  | o :: l, i, E, S, Q, h => by
    unfold VL at h
    obtain ⟨hd, h⟩ := h
    have hd := dstOk_ok hd
    cases hw : wantS ops E o with
    | none => rw [hw] at h; exact h.elim
    | some c =>
      rw [hw] at h
      obtain ⟨ht, hf⟩ := h
      cases c with
      | false => exact LS.skip hw hd (VL.sound (hf rfl))
      | true =>
        have ht := ht rfl
        split at ht
        · rename_i g xs hc
          obtain ⟨ts, ho⟩ := callOf_fn hc
          cases ha : argsS E xs with
          | none => rw [ha] at ht; exact ht.elim
          | some ss =>
            rw [ha] at ht
            rcases ht with ⟨ds, r0, hds, hp, hk⟩ | ⟨hl, r0, S1, hp, hk⟩ | ⟨hl, r0, fB, m, hp, hk⟩
            case inr.inr => exact LS.cons hw hd (OpS.lcall ho ha (hp.call S rfl rfl rfl rfl rfl fun _ _ => rfl)) (VL.sound hk)
            · exact LS.cons hw hd (OpS.call ho ha hds hp) (VL.sound hk)
            · exact LS.cons hw hd (OpS.lcall ho ha hp) (VL.sound hk)
        · rename_i x name xs hc
          obtain ⟨ts, ho⟩ := callOf_inv hc
          unfold RecK at ht
          split at ht
          · rename_i t y hx
            cases ha : argsS E xs with
            | none => rw [ha] at ht; exact ht.elim
            | some ss =>
              rw [ha] at ht
              obtain ⟨g, ds, r0, hm, hds, hp, hk⟩ := ht
              exact LS.cons hw hd (OpS.invoke ho hx hm ha hds hp) (VL.sound hk)
          · exact ht.elim
        · rename_i x xs hc
          obtain ⟨ts, ho⟩ := callOf_dyn hc
          unfold FnK at ht
          cases hx : evalO E x with
          | none => rw [hx] at ht; exact ht.elim
          | some s =>
            rw [hx] at ht
            simp only [Option.bind_some] at ht
            cases hf : fnS s with
            | none => rw [hf] at ht; exact ht.elim
            | some gfc =>
              obtain ⟨g, fs, cs⟩ := gfc
              rw [hf] at ht
              simp only at ht
              cases ha : argsS E xs with
              | none => rw [ha] at ht; exact ht.elim
              | some ss =>
                rw [ha] at ht
                rcases ht with ⟨ds, r0, hds, hp, hk⟩ | ⟨hl, r0, S1, hp, hk⟩ | ⟨hl, _⟩
                case inr.inr => exact hl.elim
                · exact LS.cons hw hd (OpS.dyn ho hx hf ha hds hp) (VL.sound hk)
                · exact LS.cons hw hd (OpS.dynL ho hx hf ha hp) (VL.sound hk)
        · rename_i hc
          rcases ht with ht | ⟨_, ht⟩
          · cases he : evalOp P E S (base + i) o with
            | none => rw [he] at ht; exact ht.elim
            | some se =>
              obtain ⟨s, e⟩ := se
              rw [he] at ht
              exact LS.cons hw hd (OpS.eval he) (VL.sound ht)
          · exact LS.consX hw hd (OpX.eval ht) (fun s e h => VL.sound h)

end
end Go.Sh
