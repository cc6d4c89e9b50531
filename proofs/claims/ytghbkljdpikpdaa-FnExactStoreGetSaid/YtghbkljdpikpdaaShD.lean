/- THE SHADOW, 4: places, parts, numbers and texts. Over any program. -/
import Derived.Test.YtghbkljdpikpdaaShC
set_option linter.unusedVariables false
set_option linter.unusedSimpArgs false
namespace Go.Sh
open Go.RowKit (Below)

section
variable {P : Program} {m0 : Nat → Nat} {w0 : World} {G : Gh} {E : Env} {S : St} {F : Nat → Prop} {a : Act} {w : World} {o : Oper}

/-! ### values without memory: what the model's own operation gives, where it asks no memory -/
def pureRun {α : Type} (P : Program) : Sem α → Option α
  | .pure x => some x
  | .program k => pureRun P (k P)
  | _ => none

theorem pureRun_ok {α : Type} : ∀ (m : Sem α) (x : α), pureRun P m = some x → m.run P w = .ok x w
  | .pure y, x, h => by simp only [pureRun, Option.some.injEq] at h; subst h; rfl
  | .program k, x, h => pureRun_ok (k P) x h
  | .load .., _, h | .store .., _, h | .new .., _, h | .shape .., _, h | .freeze .., _, h | .frozen .., _, h | .getObj .., _, h | .setObj .., _, h | .choose .., _, h | .sys .., _, h | .mark .., _, h | .halt .., _, h => by simp [pureRun] at h

theorem VR.v_inv {x u : Value} (h : VR G w (.d (.v x)) u) : u = x ∧ plain x = true := by
  cases h with
  | d h => cases h with
    | v h => exact ⟨rfl, h⟩

theorem evalO_v (h : Rel m0 w0 G E S F a w) {x : Operand} {v : Value} (he : evalO E x = some (.d (.v v))) : a.eval x = v := (evalO_ok h he).v_inv.1

def intBin (op : BinOp) (k : IntKind) (x y : Int) : Option Value :=
  match op with
  | .add => some (.int k (k.wrap (x + y)))
  | .sub => some (.int k (k.wrap (x - y)))
  | .mul => some (.int k (k.wrap (x * y)))
  | .quo => if y = 0 then none else some (.int k (k.wrap (x.tdiv y)))
  | .rem => if y = 0 then none else some (.int k (x.tmod y))
  | .and => some (.int k (k.wrap (BitVec.ofInt k.bits x &&& BitVec.ofInt k.bits y).toNat))
  | .or => some (.int k (k.wrap (BitVec.ofInt k.bits x ||| BitVec.ofInt k.bits y).toNat))
  | .xor => some (.int k (k.wrap (BitVec.ofInt k.bits x ^^^ BitVec.ofInt k.bits y).toNat))
  | .andNot => some (.int k (k.wrap (BitVec.ofInt k.bits x &&& ~~~BitVec.ofInt k.bits y).toNat))
  | .eql => some (.bool (x == y))
  | .neq => some (.bool (x != y))
  | .lss => some (.bool (x < y))
  | .leq => some (.bool (x ≤ y))
  | .gtr => some (.bool (x > y))
  | .geq => some (.bool (x ≥ y))
  | _ => none

def strBin (op : BinOp) (x y : ByteArray) : Option Value :=
  match op with
  | .add => if x.size + y.size ≤ 9223372036854775807 then some (.string (x ++ y)) else none
  | .eql => some (.bool (x.toList == y.toList))
  | .neq => some (.bool (!(x.toList == y.toList)))
  | .lss => some (.bool (Op.bytesLess x.toList y.toList))
  | .leq => some (.bool (Op.bytesLess x.toList y.toList || x.toList == y.toList))
  | .gtr => some (.bool (!(Op.bytesLess x.toList y.toList || x.toList == y.toList)))
  | .geq => some (.bool (!Op.bytesLess x.toList y.toList))
  | _ => none

def shiftBin (op : BinOp) (k : IntKind) (x y : Int) : Option Value :=
  if y < 0 then none else match op with
  | .shl => some (.int k (k.wrap (x * 2 ^ min y.toNat k.bits)))
  | .shr => some (.int k (x.fdiv (2 ^ min y.toNat k.bits)))
  | _ => none

/-- What an operator gives of values without memory. -/
def isShift : BinOp → Bool
  | .shl | .shr => true
  | _ => false
def binS (P : Program) (op : BinOp) (T : TypeId) (x y : Value) : Option Value :=
  match x, y with
  | .int k a, .int k' b => if isShift op = true then shiftBin op k a b else if k = k' then intBin op k a b else none
  | .string a, .string b => strBin op a b
  | .bool a, .bool b => match op, P.underlying T with
    | .eql, some .bool => some (.bool (a == b))
    | .neq, some .bool => some (.bool (!(a == b)))
    | _, _ => none
  | _, _ => none

theorem run_eq_bool {T : TypeId} {x y : Bool} (hu : P.underlying T = some .bool) : (Op.equal T (.bool x) (.bool y)).run P w = .ok (x == y) w := by
  unfold Op.equal
  rw [show Op.maxDepth = 9999 + 1 from rfl, Op.equalIn, Sem.run_bind, run_under hu]
  rfl

set_option maxHeartbeats 800000 in
theorem binS_ok {op : BinOp} {T : TypeId} {x y : Value} {X Y : Operand} {r : Value} (h : binS P op T x y = some r) :
    (do eqGuard op T X Y x y; binOp op T x y : Sem Value).run P w = .ok r w ∧ plain r = true := by
  unfold binS at h
  split at h
  · rename_i k a k' b
    have hg : ∀ op, (eqGuard op T X Y (.int k a) (.int k' b)).run P w = .ok () w := by
      intro op; unfold eqGuard; cases op <;> simp
    rw [Sem.run_bind, hg]
    simp only [Result.andThen_ok]
    split at h
    · rename_i hs
      have hs : op = .shl ∨ op = .shr := by cases op <;> simp_all [isShift]
      unfold shiftBin at h
      split at h
      · cases h
      · rename_i hy
        rcases hs with rfl | rfl
        · simp only [Option.some.injEq] at h; subst h
          simp [binOp, Op.shift, hy, plain]
        · simp only [Option.some.injEq] at h; subst h
          simp [binOp, Op.shift, hy, plain]
    · rename_i hs
      have hs1 : op ≠ .shl := fun e => hs (by rw [e]; rfl)
      have hs2 : op ≠ .shr := fun e => hs (by rw [e]; rfl)
      split at h
      · rename_i hk
        subst hk
        unfold intBin at h
        split at h <;> (first | (cases h; done) | (split at h; (first | (cases h; done) | skip)) | skip)
        all_goals (first | (simp only [Option.some.injEq] at h; subst h) | (rename_i hy; split at h; cases h; simp only [Option.some.injEq] at h; subst h) | skip)
        all_goals (first | (simp_all [binOp, Op.intArith, Op.intBits, Op.intCmp, Op.intDiv, plain]; done) | skip)
      · cases h
  · rename_i a b
    have hg : ∀ op, (eqGuard op T X Y (.string a) (.string b)).run P w = .ok () w := by
      intro op; unfold eqGuard; cases op <;> simp
    rw [Sem.run_bind, hg]
    simp only [Result.andThen_ok]
    unfold strBin at h
    split at h
    · split at h
      · rename_i hle
        simp only [Option.some.injEq] at h; subst h
        have hle' : ¬ (IntKind.i64.max < ((a.size + b.size : Nat) : Int)) := by
          have : IntKind.i64.max = 9223372036854775807 := by decide
          omega
        simp [binOp, Op.stringOp, plain]
        have : IntKind.i64.max = 9223372036854775807 := by decide
        omega
      · cases h
    all_goals (first | (cases h; done) | (simp only [Option.some.injEq] at h; subst h; simp [binOp, Op.stringOp, plain]))
  · rename_i a b
    have hg : ∀ op, (eqGuard op T X Y (.bool a) (.bool b)).run P w = .ok () w := by
      intro op; unfold eqGuard; cases op <;> simp
    rw [Sem.run_bind, hg]
    simp only [Result.andThen_ok]
    split at h
    · rename_i hu
      simp only [Option.some.injEq] at h; subst h
      have := run_eq_bool (w := w) (x := a) (y := b) hu
      simp [binOp, this, plain]
    · rename_i hu
      simp only [Option.some.injEq] at h; subst h
      have := run_eq_bool (w := w) (x := a) (y := b) hu
      simp [binOp, this, plain]
    · cases h
  · cases h

theorem does_bin {op : BinOp} {T T' : TypeId} {X Y : Operand} {x y r : Value} (ho : o.op = .binOp op T X Y T') (h : Rel m0 w0 G E S F a w) (hx : evalO E X = some (.d (.v x))) (hy : evalO E Y = some (.d (.v y))) (hr : binS P op T x y = some r) :
    Does P m0 w0 G E S F a w o (.d (.v r)) S F := by
  obtain ⟨h1, h2⟩ := binS_ok (P := P) (w := w) (X := X) (Y := Y) hr
  refine .quiet h (u := r) ?_ (.d (.v h2))
  simp only [execOp, ho, evalO_v h hx, evalO_v h hy]
  rw [Sem.run_bind, h1]
  rfl

def unS (op : UnOp) (x : Value) : Option Value :=
  match op, x with
  | .not, .bool b => some (.bool (!b))
  | .neg, .int k n => some (.int k (k.wrap (0 - n)))
  | .xor, .int k n => some (.int k (k.wrap (BitVec.ofInt k.bits (if k.signed then -1 else k.max) ^^^ BitVec.ofInt k.bits n).toNat))
  | _, _ => none

theorem does_un {op : UnOp} {T : TypeId} {X : Operand} {x r : Value} (ho : o.op = .unOp op T X) (h : Rel m0 w0 G E S F a w) (hx : evalO E X = some (.d (.v x))) (hr : unS op x = some r) :
    Does P m0 w0 G E S F a w o (.d (.v r)) S F := by
  unfold unS at hr
  refine .quiet h (u := r) ?_ (.d (.v ?_))
  · simp only [execOp, ho, evalO_v h hx]
    split at hr <;> first | (cases hr; done) | (simp only [Option.some.injEq] at hr; subst hr; simp [Op.unary, Op.intArith, Op.intBits])
  · split at hr <;> first | (cases hr; done) | (simp only [Option.some.injEq] at hr; subst hr; rfl)

/-- A number of another kind. -/
theorem does_convert {Ts Td : TypeId} {X : Operand} {k k' : IntKind} {n : Int} (ho : o.op = .convert Ts Td X) (h : Rel m0 w0 G E S F a w) (hx : evalO E X = some (.d (.v (.int k n)))) {d : TypeDesc} (hs : P.underlying Ts = some d) (hd : P.underlying Td = some (.int k')) :
    Does P m0 w0 G E S F a w o (.d (.v (.int k' (k'.wrap n)))) S F := by
  refine .quiet h (u := .int k' (k'.wrap n)) ?_ (.d (.v rfl))
  simp only [execOp, ho, evalO_v h hx, convert]
  simp [run_under hs, run_under hd, Conv.intToInt]

/-! ### parts and places -/
theorem VR.ag_inv {cs : List SV} {u : Value} (h : VR G w (.ag cs) u) : ∃ us : Array Value, u = .agg us ∧ us.size = cs.length ∧ (∀ j (h : j < cs.length), (cs[j]).cell = true) ∧ ∀ j (h : j < cs.length) (h' : j < us.size), VR G w cs[j] us[j] := by
  cases h with
  | ag hl hk hv => exact ⟨_, rfl, by simpa using hl, hk, fun j hj hj' => hv j hj (by simpa using hj')⟩
theorem VR.agg_inv {cs : List D} {u : Value} (h : VR G w (.d (.agg cs)) u) : ∃ us : Array Value, u = .agg us ∧ us.size = cs.length ∧ (∀ j (h : j < cs.length), (cs[j]).cell = true) ∧ ∀ j (h : j < cs.length) (h' : j < us.size), PV G.mark w cs[j] us[j] := by
  cases h with
  | d h => cases h with
    | agg hl hk hv => exact ⟨_, rfl, by simpa using hl, hk, fun j hj hj' => hv j hj (by simpa using hj')⟩

theorem does_field_ag {T : TypeId} {X : Operand} {i : Nat} {fs : Array Field} {f : Field} {cs : List SV} {s : SV} (ho : o.op = .field T X i) (h : Rel m0 w0 G E S F a w) (hx : evalO E X = some (.ag cs))
    (hu : P.underlying T = some (.struct fs)) (hf : fs[i]? = some f) (hl : loadS P f.type cs f.offset = some s) : Does P m0 w0 G E S F a w o s S F := by
  obtain ⟨us, e, h1, h2, h3⟩ := (evalO_ok h hx).ag_inv
  obtain ⟨u, h4, h5⟩ := partG_ok (P := P) (w := w) (C := fun x => SV.cell x = true) (R := VR G w) (fun _ _ a b c => .ag a b c) hl h1 h2 h3
  refine .quiet h (u := u) ?_ h5
  simp only [execOp, ho, e, Instr.field]
  simp [run_under hu, hf, asAgg, h4]

theorem does_field_agg {T : TypeId} {X : Operand} {i : Nat} {fs : Array Field} {f : Field} {cs : List D} {s : D} (ho : o.op = .field T X i) (h : Rel m0 w0 G E S F a w) (hx : evalO E X = some (.d (.agg cs)))
    (hu : P.underlying T = some (.struct fs)) (hf : fs[i]? = some f) (hl : loadD P f.type cs f.offset = some s) : Does P m0 w0 G E S F a w o (.d s) S F := by
  obtain ⟨us, e, h1, h2, h3⟩ := (evalO_ok h hx).agg_inv
  obtain ⟨u, h4, h5⟩ := partG_ok (P := P) (w := w) (C := fun x => D.cell x = true) (R := PV G.mark w) (fun _ _ a b c => .agg a b c) hl h1 h2 h3
  refine .quiet h (u := u) ?_ (.d h5)
  simp only [execOp, ho, e, Instr.field]
  simp [run_under hu, hf, asAgg, h4]

/-- The place of a field. -/
def fieldOf (P : Program) (T : TypeId) (i : Nat) : Option Nat :=
  match P.underlying T with
  | some (.struct fs) => match fs[i]? with
    | some f => match szOf P f.type with
      | some (_ + 1) => some f.offset
      | _ => none
    | none => none
  | _ => none

theorem VR.pp_shift {cs : List D} {off : Nat} {u : Value} (h : VR G w (.d (.pp cs off)) u) : ∃ B o', u = .pointer (some ⟨B, o' + off, none⟩) ∧ ∀ n, VR G w (.d (.pp cs (off + n))) (.pointer (some ⟨B, o' + (off + n), none⟩)) := by
  cases h with
  | d h => cases h with
    | pp us hc hk hv => exact ⟨_, _, rfl, fun n => .d (.pp us hc hk hv)⟩

theorem run_fieldAt {T : TypeId} {i n B x : Nat} (hf : fieldOf P T i = some n) : (Instr.fieldAt T (.pointer (some ⟨B, x, none⟩)) i).run P w = .ok (.pointer (some ⟨B, x + n, none⟩)) w := by
  unfold fieldOf at hf
  split at hf
  · rename_i fs hu
    split at hf
    · rename_i f hfi
      split at hf
      · rename_i k hk
        simp only [Option.some.injEq] at hf; subst hf
        have hs := run_size (P := P) (w := w) hk
        simp [Instr.fieldAt, run_under hu, hfi, Instr.sureAddr, fieldPlace, hs, add_off]
      · cases hf
    · cases hf
  · cases hf

theorem does_fieldAddr_pp {T : TypeId} {X : Operand} {i n : Nat} {cs : List D} {off : Nat} (ho : o.op = .fieldAddr T X i) (h : Rel m0 w0 G E S F a w) (hx : evalO E X = some (.d (.pp cs off))) (hf : fieldOf P T i = some n) :
    Does P m0 w0 G E S F a w o (.d (.pp cs (off + n))) S F := by
  obtain ⟨B, o', e, hs⟩ := (evalO_ok h hx).pp_shift
  refine .quiet h ?_ (hs n)
  simp only [execOp, ho, e]
  rw [Sem.run_bind, run_fieldAt hf, Nat.add_assoc]; rfl

theorem does_fieldAddr_op {T : TypeId} {X : Operand} {i n : Nat} {b off : Nat} (ho : o.op = .fieldAddr T X i) (h : Rel m0 w0 G E S F a w) (hx : evalO E X = some (.op b off)) (hf : fieldOf P T i = some n) :
    Does P m0 w0 G E S F a w o (.op b (off + n)) S F := by
  obtain ⟨B, hg, e⟩ := (evalO_ok h hx).op_inv
  refine .quiet h ?_ (.op hg)
  simp only [execOp, ho, e]
  rw [Sem.run_bind, run_fieldAt hf]; rfl

/-- A slice whose cells are known. -/
def rowS : SV → Option (List D × Nat)
  | .d (.ps cs n) => some (cs, n)
  | .fl cs n => some (cs, n)
  | .tp _ _ cs n => some (cs, n)
  | _ => none

theorem rowS_ok {s : SV} {cs : List D} {n : Nat} {u : Value} (h : rowS s = some (cs, n)) (hv : VR G w s u) : PV G.mark w (.ps cs n) u := by
  cases hv with
  | d h' =>
    cases h' <;> simp only [rowS, Option.some.injEq, Prod.mk.injEq, reduceCtorEq] at h
    · obtain ⟨rfl, rfl⟩ := h; exact .nil
    · obtain ⟨rfl, rfl⟩ := h; rename_i a; exact .pz a
    · obtain ⟨rfl, rfl⟩ := h; rename_i a b c d; exact .ps _ a b c d
  | fl h' hc => simp only [rowS, Option.some.injEq, Prod.mk.injEq] at h; obtain ⟨rfl, rfl⟩ := h; exact h'
  | tp h' ht hn he => simp only [rowS, Option.some.injEq, Prod.mk.injEq] at h; obtain ⟨rfl, rfl⟩ := h; exact h'
  | _ => simp [rowS] at h

/-- The place of an element of a slice whose cells are known. -/
theorem does_indexAddr_row {T e : TypeId} {X Y : Operand} {s : SV} {cs : List D} {n sz : Nat} {k : IntKind} {i : Int} (ho : o.op = .indexAddr T X Y) (h : Rel m0 w0 G E S F a w) (hx : evalO E X = some s) (hr : rowS s = some (cs, n)) (hy : evalO E Y = some (.d (.v (.int k i))))
    (hu : P.underlying T = some (.slice e)) (hs : szOf P e = some sz) (h0 : 0 ≤ i) (h1 : i < n) : Does P m0 w0 G E S F a w o (.d (.pp cs (i.toNat * sz))) S F := by
  have hv := rowS_ok hr (evalO_ok h hx)
  have hY := evalO_v h hy
  generalize hX : a.eval X = A at hv
  cases hv with
  | nil => simp at h1; omega
  | pz _ => simp at h1; omega
  | ps us hn hc hk hv =>
    refine .quiet h ?_ (.d (.pp us hc hk hv))
    simp only [execOp, ho, hX, hY, Instr.indexAt]
    simp [asIntOf, run_under hu, h0, h1, run_size hs, add_off]

/-- The place of an element of an array that a variable is. -/
theorem run_indexAt_array {T e : TypeId} {len sz B x : Nat} {k : IntKind} {i : Int} (hu : P.underlying T = some (.array len e)) (hs : szOf P e = some sz) (h0 : 0 ≤ i) (h1 : i < len) :
    (Instr.indexAt T (.pointer (some ⟨B, x, none⟩)) (.int k i)).run P w = .ok (.pointer (some ⟨B, x + i.toNat * sz, none⟩)) w := by
  simp [Instr.indexAt, asIntOf, run_under hu, Instr.sureAddr, h0, h1, run_size hs, add_off]

theorem does_indexAddr_op {T e : TypeId} {X Y : Operand} {b off len sz : Nat} {k : IntKind} {i : Int} (ho : o.op = .indexAddr T X Y) (h : Rel m0 w0 G E S F a w) (hx : evalO E X = some (.op b off)) (hy : evalO E Y = some (.d (.v (.int k i))))
    (hu : P.underlying T = some (.array len e)) (hs : szOf P e = some sz) (h0 : 0 ≤ i) (h1 : i < len) : Does P m0 w0 G E S F a w o (.op b (off + i.toNat * sz)) S F := by
  obtain ⟨B, hg, e'⟩ := (evalO_ok h hx).op_inv
  refine .quiet h ?_ (.op hg)
  simp only [execOp, ho, e', evalO_v h hy]
  rw [Sem.run_bind, run_indexAt_array hu hs h0 h1]; rfl

theorem does_indexAddr_pa {T e : TypeId} {X Y : Operand} {cs : List D} {off len sz : Nat} {k : IntKind} {i : Int} (ho : o.op = .indexAddr T X Y) (h : Rel m0 w0 G E S F a w) (hx : evalO E X = some (.d (.pp cs off))) (hy : evalO E Y = some (.d (.v (.int k i))))
    (hu : P.underlying T = some (.array len e)) (hs : szOf P e = some sz) (h0 : 0 ≤ i) (h1 : i < len) : Does P m0 w0 G E S F a w o (.d (.pp cs (off + i.toNat * sz))) S F := by
  obtain ⟨B, o', e', hp⟩ := (evalO_ok h hx).pp_shift
  refine .quiet h ?_ (hp _)
  simp only [execOp, ho, e', evalO_v h hy]
  rw [Sem.run_bind, run_indexAt_array hu hs h0 h1, Nat.add_assoc]; rfl

theorem VR.os_inv {b off n : Nat} {u : Value} (h : VR G w (.os b off n) u) : ∃ B c, G.box b = some B ∧ n ≤ c ∧ u = .slice (some ⟨B, off, none⟩) n c := by
  cases h with
  | os h hn => exact ⟨_, _, h, hn, rfl⟩

theorem does_indexAddr_os {T e : TypeId} {X Y : Operand} {b off n sz : Nat} {k : IntKind} {i : Int} (ho : o.op = .indexAddr T X Y) (h : Rel m0 w0 G E S F a w) (hx : evalO E X = some (.os b off n)) (hy : evalO E Y = some (.d (.v (.int k i))))
    (hu : P.underlying T = some (.slice e)) (hs : szOf P e = some sz) (h0 : 0 ≤ i) (h1 : i < n) : Does P m0 w0 G E S F a w o (.op b (off + i.toNat * sz)) S F := by
  obtain ⟨B, c, hg, hc, e'⟩ := (evalO_ok h hx).os_inv
  refine .quiet h ?_ (.op hg)
  simp only [execOp, ho, e', evalO_v h hy, Instr.indexAt]
  simp [asIntOf, run_under hu, h0, h1, run_size hs, add_off]

theorem VR.sk_inv {b n sz : Nat} {u : Value} (h : VR G w (.sk b n sz) u) : ∃ B c us T fr, G.box b = some B ∧ n ≤ c ∧ u = .slice (some ⟨B, 0, none⟩) n c ∧ w.heap[B]? = some (.cells us T fr) ∧ c * sz ≤ us.size := by
  cases h with
  | sk h hn hb hr => exact ⟨_, _, _, _, _, h, hn, rfl, hb, hr⟩

theorem does_indexAddr_sk {T e : TypeId} {X Y : Operand} {b n sz sz' : Nat} {k : IntKind} {i : Int} (ho : o.op = .indexAddr T X Y) (h : Rel m0 w0 G E S F a w) (hx : evalO E X = some (.sk b n sz')) (hy : evalO E Y = some (.d (.v (.int k i))))
    (hu : P.underlying T = some (.slice e)) (hs : szOf P e = some sz) (h0 : 0 ≤ i) (h1 : i < n) : Does P m0 w0 G E S F a w o (.op b (i.toNat * sz)) S F := by
  obtain ⟨B, c, us, T', fr, hg, hc, e', _⟩ := (evalO_ok h hx).sk_inv
  refine .quiet h ?_ (.op hg)
  simp only [execOp, ho, e', evalO_v h hy, Instr.indexAt]
  simp [asIntOf, run_under hu, h0, h1, run_size hs, add_off]

/-- A byte of a text. -/
theorem does_index_string {T : TypeId} {X Y : Operand} {s : ByteArray} {k : IntKind} {i : Int} (ho : o.op = .index T X Y) (h : Rel m0 w0 G E S F a w) (hx : evalO E X = some (.d (.v (.string s)))) (hy : evalO E Y = some (.d (.v (.int k i))))
    (hu : P.underlying T = some .string) (h0 : 0 ≤ i) (h1 : i < s.size) : Does P m0 w0 G E S F a w o (.d (.v (.int .u8 (s[i.toNat]'(by omega)).toNat))) S F := by
  refine .quiet h ?_ (.d (.v rfl))
  simp only [execOp, ho, evalO_v h hx, evalO_v h hy, Instr.index]
  have : s[i.toNat]? = some (s[i.toNat]'(by omega)) := by
    simp [show i.toNat < s.size by omega]
  simp [asIntOf, run_under hu, h0, this]

/-- A value in an interface. -/
def mkIfc (T : TypeId) : SV → SV
  | .d x => .d (.ifc T x)
  | s => .fc T s
theorem mkIfc_ok {T : TypeId} {s : SV} {u : Value} (h : VR G w s u) : VR G w (mkIfc T s) (.iface T u) := by
  cases h with
  | d h => exact .d (.ifc h)
  | fl h hc => exact .fc (.fl h hc)
  | tp h ht hn he => exact .fc (.tp h ht hn he)
  | op h => exact .fc (.op h)
  | os h hn => exact .fc (.os h hn)
  | ag hl hk hv => exact .fc (.ag hl hk hv)
  | tu hl hv => exact .fc (.tu hl hv)
  | fc h => exact .fc (.fc h)
  | fn hl hm hv hu => exact .fc (.fn hl hm hv hu)
  | mv h => exact .fc (.mv h)
  | iv h => exact .fc (.iv h)
  | sk h hn hb hr => exact .fc (.sk h hn hb hr)

theorem does_makeInterface {T : TypeId} {X : Operand} {s : SV} {d : TypeDesc} (ho : o.op = .makeInterface T X) (h : Rel m0 w0 G E S F a w) (hx : evalO E X = some s) (hu : P.underlying T = some d) (hd : ∀ ms, d ≠ .interface ms) :
    Does P m0 w0 G E S F a w o (mkIfc T s) S F := by
  refine .quiet h ?_ (mkIfc_ok (evalO_ok h hx))
  simp only [execOp, ho, Instr.makeInterface]
  cases d <;> first | exact absurd rfl (hd _) | simp [run_under hu]

/-- A part of a tuple. -/
def tupS : SV → Nat → Option SV
  | .tu cs, i => cs[i]?
  | .d (.tup cs), i => cs[i]?.map .d
  | _, _ => none

theorem does_extract {X : Operand} {i : Nat} {t s : SV} (ho : o.op = .extract X i) (h : Rel m0 w0 G E S F a w) (hx : evalO E X = some t) (hs : tupS t i = some s) : Does P m0 w0 G E S F a w o s S F := by
  have hv := evalO_ok h hx
  generalize hX : a.eval X = A at hv
  have fin : ∀ (us : List Value) (hlt : i < us.length), A = .tuple us.toArray → VR G w s us[i] → Does P m0 w0 G E S F a w o s S F := by
    intro us hlt e hu
    refine .quiet h (u := us[i]) ?_ hu
    simp only [execOp, ho, hX, e, Instr.extract]
    simp [List.getElem?_eq_getElem hlt]
  cases hv with
  | tu hl hv =>
    rename_i us
    obtain ⟨hlt, he⟩ := List.getElem?_eq_some_iff.1 hs
    exact fin us (by omega) rfl (by rw [← he]; exact hv i hlt (by omega))
  | d hv =>
    cases hv with
    | tup hl hv =>
      rename_i cs us
      simp only [tupS, Option.map_eq_some_iff] at hs
      obtain ⟨x, hs, rfl⟩ := hs
      obtain ⟨hlt, he⟩ := List.getElem?_eq_some_iff.1 hs
      exact fin us (by omega) rfl (.d (by rw [← he]; exact hv i hlt (by omega)))
    | _ => simp [tupS] at hs
  | _ => simp [tupS] at hs

/-- How long a slice is. -/
def lenS : SV → Option Nat
  | .d (.ps _ n) => some n
  | .fl _ n => some n
  | .tp _ _ _ n => some n
  | .os _ _ n => some n
  | .sk _ n _ => some n
  | _ => none

theorem does_len_string {T T2 : TypeId} {X : Operand} {b : ByteArray} (ho : o.op = .call { callee := .builtin .len, args := #[X], argTypes := #[T] }) (h : Rel m0 w0 G E S F a w) (hx : evalO E X = some (.d (.v (.string b))))
    (hu : P.underlying T = some .string) : Does P m0 w0 G E S F a w o (.d (.v (.int .i64 b.size))) S F := by
  refine .quiet h (u := .int .i64 b.size) ?_ (.d (.v rfl))
  simp only [execOp, ho]
  simp [resolve, invoke, builtin, Builtin.len_, evalO_v h hx, run_under hu, goInt]

theorem lenS_ok {s : SV} {n : Nat} {u : Value} (hl : lenS s = some n) (hv : VR G w s u) : ∃ A c, u = .slice A n c := by
  cases hv with
  | d h' =>
    cases h' <;> simp only [lenS, Option.some.injEq, reduceCtorEq] at hl
    · subst hl; exact ⟨_, _, rfl⟩
    · subst hl; exact ⟨_, _, rfl⟩
    · subst hl; exact ⟨_, _, rfl⟩
  | fl h' hc => simp only [lenS, Option.some.injEq] at hl; subst hl; obtain ⟨A, c, e, _⟩ := h'.slice_inv; exact ⟨A, c, e⟩
  | tp h' ht hn he => simp only [lenS, Option.some.injEq] at hl; subst hl; exact ⟨_, _, rfl⟩
  | os hg hn => simp only [lenS, Option.some.injEq] at hl; subst hl; exact ⟨_, _, rfl⟩
  | sk hg hn hb hr => simp only [lenS, Option.some.injEq] at hl; subst hl; exact ⟨_, _, rfl⟩
  | _ => simp [lenS] at hl

theorem does_len {T e : TypeId} {X : Operand} {s : SV} {n : Nat} (ho : o.op = .call { callee := .builtin .len, args := #[X], argTypes := #[T] }) (h : Rel m0 w0 G E S F a w) (hx : evalO E X = some s) (hl : lenS s = some n)
    (hu : P.underlying T = some (.slice e)) : Does P m0 w0 G E S F a w o (.d (.v (.int .i64 n))) S F := by
  obtain ⟨A, c, e⟩ := lenS_ok hl (evalO_ok h hx)
  refine .quiet h (u := .int .i64 n) ?_ (.d (.v rfl))
  simp only [execOp, ho]
  simp [resolve, invoke, builtin, Builtin.len_, e, run_under hu, goInt]
end
end Go.Sh
