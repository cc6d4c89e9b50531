/- THE SHADOW, 13: what the operations' parts give, case by case. Over any program. -/
import Derived.Test.YtghbkljdpikpdaaShN
set_option linter.unusedVariables false
set_option linter.unusedSimpArgs false
namespace Go.Sh

section
variable {P : Program} {E : Env} {S : St}
@[simp] theorem argsS_nil : argsS E [] = some [] := (rfl)
def consO {α : Type} : Option α → Option (List α) → Option (List α)
  | some s, some ss => some (s :: ss)
  | _, _ => none
@[simp] theorem consO_some {α : Type} (s : α) (ss : List α) : consO (some s) (some ss) = some (s :: ss) := (rfl)
@[simp] theorem argsS_cons (x : Operand) (r : List Operand) : argsS E (x :: r) = consO (evalO E x) (argsS E r) := by
  simp only [argsS, consO]
  split <;> simp_all
@[simp] theorem toDs_nil : toDs [] = some [] := by simp [toDs]
@[simp] theorem toDs_cons (s : SV) (r : List SV) : toDs (s :: r) = consO s.toD (toDs r) := by
  simp only [toDs, consO]
  split <;> simp_all
@[simp] theorem toDs_map : ∀ xs : List D, toDs (xs.map .d) = some xs
  | [] => by simp
  | x :: r => by simp only [List.map_cons, toDs_cons, toDs_map r]; rfl
@[simp] theorem toD_d (x : D) : (SV.d x).toD = some x := (rfl)
@[simp] theorem toD_fl (cs : List D) (n : Nat) : (SV.fl cs n).toD = some (.ps cs n) := (rfl)
@[simp] theorem toD_tp (i q : Nat) (cs : List D) (n : Nat) : (SV.tp i q cs n).toD = some (.ps cs n) := (rfl)
@[simp] theorem toD_ag (cs : List SV) : (SV.ag cs).toD = (toDs cs).map .agg := (rfl)
@[simp] theorem toD_tu (cs : List SV) : (SV.tu cs).toD = (toDs cs).map .tup := (rfl)
@[simp] theorem toD_fc (t : TypeId) (x : SV) : (SV.fc t x).toD = x.toD.map (.ifc t) := (rfl)
@[simp] theorem toD_op (b off : Nat) : (SV.op b off).toD = none := (rfl)
@[simp] theorem toD_os (b off n : Nat) : (SV.os b off n).toD = none := (rfl)
@[simp] theorem toD_mv (b : Nat) : (SV.mv b).toD = none := (rfl)
@[simp] theorem toD_iv (b : Nat) : (SV.iv b).toD = none := (rfl)
@[simp] theorem toD_sk (b n sz : Nat) : (SV.sk b n sz).toD = none := (rfl)
def fnO (f : Fn) : Option (List D) → Option (List D) → Option D
  | some xs, some ys => some (.fn f xs ys)
  | _, _ => none
@[simp] theorem fnO_some (f : Fn) (xs ys : List D) : fnO f (some xs) (some ys) = some (.fn f xs ys) := (rfl)
@[simp] theorem toD_fn (f : Fn) (xs ys : List SV) : (SV.fn f xs ys).toD = fnO f (toDs xs) (toDs ys) := by
  simp only [SV.toD]
  cases toDs xs <;> cases toDs ys <;> rfl
@[simp] theorem cells_mv (b : Nat) : (SV.mv b).cells = [.mv b] := (rfl)
@[simp] theorem cells_iv (b : Nat) : (SV.iv b).cells = [.iv b] := (rfl)
@[simp] theorem cells_sk (b n sz : Nat) : (SV.sk b n sz).cells = [.sk b n sz] := (rfl)
@[simp] theorem cells_fn (f : Fn) (xs ys : List SV) : (SV.fn f xs ys).cells = [.fn f xs ys] := (rfl)
@[simp] theorem cells_dfn (f : Fn) (xs ys : List D) : (SV.d (.fn f xs ys)).cells = [.d (.fn f xs ys)] := (rfl)
@[simp] theorem cells_mp (ks vs : List D) : (SV.d (.mp ks vs)).cells = [.d (.mp ks vs)] := (rfl)
@[simp] theorem one_mv (b : Nat) : (SV.mv b).one = true := (rfl)
@[simp] theorem one_iv (b : Nat) : (SV.iv b).one = true := (rfl)
@[simp] theorem one_sk (b n sz : Nat) : (SV.sk b n sz).one = true := (rfl)
@[simp] theorem one_fn (f : Fn) (xs ys : List SV) : (SV.fn f xs ys).one = true := (rfl)
@[simp] theorem one_dfn (f : Fn) (xs ys : List D) : (SV.d (.fn f xs ys)).one = true := (rfl)
@[simp] theorem one_mp (ks vs : List D) : (SV.d (.mp ks vs)).one = true := (rfl)
@[simp] theorem one_nilM : (SV.d (.v (.map none))).one = true := (rfl)
@[simp] theorem one_nilF : (SV.d (.v .nilFunc)).one = true := (rfl)
@[simp] theorem dcells_fn (f : Fn) (xs ys : List D) : (D.fn f xs ys).cells = [.fn f xs ys] := (rfl)
@[simp] theorem dcells_mp (ks vs : List D) : (D.mp ks vs).cells = [.mp ks vs] := (rfl)
@[simp] theorem dcells_nilP : (D.v (.pointer none)).cells = [.v (.pointer none)] := (rfl)
@[simp] theorem done_fn (f : Fn) (xs ys : List D) : (D.fn f xs ys).one = true := (rfl)
@[simp] theorem done_mp (ks vs : List D) : (D.mp ks vs).one = true := (rfl)
@[simp] theorem done_nilP : (D.v (.pointer none)).one = true := (rfl)

@[simp] theorem cells_ag (cs : List SV) : (SV.ag cs).cells = cs := (rfl)
@[simp] theorem cells_agg (cs : List D) : (SV.d (.agg cs)).cells = cs.map .d := (rfl)
@[simp] theorem cells_v (x : Value) : (SV.d (.v x)).cells = [.d (.v x)] := (rfl)
@[simp] theorem cells_ps (cs : List D) (n : Nat) : (SV.d (.ps cs n)).cells = [.d (.ps cs n)] := (rfl)
@[simp] theorem cells_pp (cs : List D) (n : Nat) : (SV.d (.pp cs n)).cells = [.d (.pp cs n)] := (rfl)
@[simp] theorem cells_ifc (t : TypeId) (x : D) : (SV.d (.ifc t x)).cells = [.d (.ifc t x)] := (rfl)
@[simp] theorem cells_fl (cs : List D) (n : Nat) : (SV.fl cs n).cells = [.fl cs n] := (rfl)
@[simp] theorem cells_tp (i q : Nat) (cs : List D) (n : Nat) : (SV.tp i q cs n).cells = [.tp i q cs n] := (rfl)
@[simp] theorem cells_op (b off : Nat) : (SV.op b off).cells = [.op b off] := (rfl)
@[simp] theorem cells_os (b off n : Nat) : (SV.os b off n).cells = [.os b off n] := (rfl)
@[simp] theorem cells_fc (t : TypeId) (x : SV) : (SV.fc t x).cells = [.fc t x] := (rfl)
@[simp] theorem one_ag (cs : List SV) : (SV.ag cs).one = true := (rfl)
@[simp] theorem one_agg (cs : List D) : (SV.d (.agg cs)).one = true := (rfl)
@[simp] theorem one_bool (b : Bool) : (SV.d (.v (.bool b))).one = true := (rfl)
@[simp] theorem one_int (k : IntKind) (n : Int) : (SV.d (.v (.int k n))).one = true := (rfl)
@[simp] theorem one_string (s : ByteArray) : (SV.d (.v (.string s))).one = true := (rfl)
@[simp] theorem one_nilI : (SV.d (.v .nilIface)).one = true := (rfl)
@[simp] theorem one_nilP : (SV.d (.v (.pointer none))).one = true := (rfl)
@[simp] theorem one_ps (cs : List D) (n : Nat) : (SV.d (.ps cs n)).one = true := (rfl)
@[simp] theorem one_pp (cs : List D) (n : Nat) : (SV.d (.pp cs n)).one = true := (rfl)
@[simp] theorem one_ifc (t : TypeId) (x : D) : (SV.d (.ifc t x)).one = true := (rfl)
@[simp] theorem one_fl (cs : List D) (n : Nat) : (SV.fl cs n).one = true := (rfl)
@[simp] theorem one_tp (i q : Nat) (cs : List D) (n : Nat) : (SV.tp i q cs n).one = true := (rfl)
@[simp] theorem one_op (b off : Nat) : (SV.op b off).one = true := (rfl)
@[simp] theorem one_os (b off n : Nat) : (SV.os b off n).one = true := (rfl)
@[simp] theorem one_fc (t : TypeId) (x : SV) : (SV.fc t x).one = true := (rfl)
/-- The same of data. -/
@[simp] theorem dcells_agg (cs : List D) : (D.agg cs).cells = cs := (rfl)
@[simp] theorem dcells_v_int (k : IntKind) (n : Int) : (D.v (.int k n)).cells = [.v (.int k n)] := (rfl)
@[simp] theorem dcells_v_bool (b : Bool) : (D.v (.bool b)).cells = [.v (.bool b)] := (rfl)
@[simp] theorem dcells_v_string (s : ByteArray) : (D.v (.string s)).cells = [.v (.string s)] := (rfl)
@[simp] theorem dcells_v_nilI : (D.v .nilIface).cells = [.v .nilIface] := (rfl)
@[simp] theorem dcells_ps (cs : List D) (n : Nat) : (D.ps cs n).cells = [.ps cs n] := (rfl)
@[simp] theorem dcells_pp (cs : List D) (n : Nat) : (D.pp cs n).cells = [.pp cs n] := (rfl)
@[simp] theorem dcells_ifc (t : TypeId) (x : D) : (D.ifc t x).cells = [.ifc t x] := (rfl)
@[simp] theorem done_agg (cs : List D) : (D.agg cs).one = true := (rfl)
@[simp] theorem done_int (k : IntKind) (n : Int) : (D.v (.int k n)).one = true := (rfl)
@[simp] theorem done_bool (b : Bool) : (D.v (.bool b)).one = true := (rfl)
@[simp] theorem done_string (s : ByteArray) : (D.v (.string s)).one = true := (rfl)
@[simp] theorem done_nilI : (D.v .nilIface).one = true := (rfl)
@[simp] theorem done_ps (cs : List D) (n : Nat) : (D.ps cs n).one = true := (rfl)
@[simp] theorem done_pp (cs : List D) (n : Nat) : (D.pp cs n).one = true := (rfl)
@[simp] theorem done_ifc (t : TypeId) (x : D) : (D.ifc t x).one = true := (rfl)

@[simp] theorem partsS_nil : partsS E [] = some [] := (rfl)
def partC {α : Type} (i : Nat) : Option (Bool × List α) → Option (List (Nat × List α)) → Option (List (Nat × List α))
  | some (true, cs), some l => some ((i, cs) :: l)
  | _, _ => none
@[simp] theorem partC_some {α : Type} (i : Nat) (cs : List α) (l : List (Nat × List α)) : partC i (some (true, cs)) (some l) = some ((i, cs) :: l) := (rfl)
@[simp] theorem partsS_cons (i : Nat) (x : Operand) (r : List (Nat × Operand)) : partsS E ((i, x) :: r) = partC i ((evalO E x).map fun s => (s.one, s.cells)) (partsS E r) := by
  simp only [partsS]
  cases evalO E x with
  | none => rfl
  | some s =>
    cases partsS E r with
    | none => simp [partC]
    | some l => cases h : s.one <;> simp [partC, h]
@[simp] theorem partsD_nil : partsD E [] = some [] := (rfl)
@[simp] theorem partsD_cons (i : Nat) (x : Operand) (r : List (Nat × Operand)) : partsD E ((i, x) :: r) = partC i (((evalO E x).bind SV.toD).map fun s => (s.one, s.cells)) (partsD E r) := by
  simp only [partsD]
  cases evalO E x with
  | none => rfl
  | some s =>
    cases partsD E r with
    | none => simp [partC]
    | some l =>
      cases hd : s.toD with
      | none => simp [partC, hd]
      | some d => cases h : d.one <;> simp [partC, hd, h]
@[simp] theorem fillL_nil {α : Type} (place : Nat → Option (Nat × Nat)) (cells : List α) : fillL place cells [] = some cells := (rfl)
def fill1 {α : Type} (place : Nat → Option (Nat × Nat)) (cells cs : List α) (r : List (Nat × List α)) : Option (Nat × Nat) → Option (List α)
  | some (off, size) => if cs.length = size ∧ off + size ≤ cells.length then fillL place (cells.take off ++ cs ++ cells.drop (off + size)) r else none
  | none => none
@[simp] theorem fill1_some {α : Type} (place : Nat → Option (Nat × Nat)) (cells cs : List α) (r : List (Nat × List α)) (off size : Nat) : fill1 place cells cs r (some (off, size)) = if cs.length = size ∧ off + size ≤ cells.length then fillL place (cells.take off ++ cs ++ cells.drop (off + size)) r else none := (rfl)

@[simp] theorem fillL_cons {α : Type} (place : Nat → Option (Nat × Nat)) (cells : List α) (i : Nat) (cs : List α) (r : List (Nat × List α)) : fillL place cells ((i, cs) :: r) = fill1 place cells cs r (place i) := by
  show (match place i with | some (off, size) => if cs.length = size ∧ off + size ≤ cells.length then fillL place (cells.take off ++ cs ++ cells.drop (off + size)) r else none | none => none) = _
  unfold fill1
  split <;> simp_all

@[simp] theorem lenS_ps (cs : List D) (n : Nat) : lenS (.d (.ps cs n)) = some n := (rfl)
@[simp] theorem evalLen_string (b : ByteArray) (T : TypeId) : evalLen P (.d (.v (.string b))) T = if isString P T = true then some (.d (.v (.int .i64 b.size))) else none := (rfl)
@[simp] theorem evalLen_ps (cs : List D) (n : Nat) (T : TypeId) : evalLen P (.d (.ps cs n)) T = if isSlice P T = true then some (.d (.v (.int .i64 n))) else none := (rfl)
@[simp] theorem evalLen_fl (cs : List D) (n : Nat) (T : TypeId) : evalLen P (.fl cs n) T = if isSlice P T = true then some (.d (.v (.int .i64 n))) else none := (rfl)
@[simp] theorem evalLen_tp (i q : Nat) (cs : List D) (n : Nat) (T : TypeId) : evalLen P (.tp i q cs n) T = if isSlice P T = true then some (.d (.v (.int .i64 n))) else none := (rfl)
@[simp] theorem evalLen_os (b off n : Nat) (T : TypeId) : evalLen P (.os b off n) T = if isSlice P T = true then some (.d (.v (.int .i64 n))) else none := (rfl)
@[simp] theorem evalLen_sk (b n sz : Nat) (T : TypeId) : evalLen P (.sk b n sz) T = if isSlice P T = true then some (.d (.v (.int .i64 n))) else none := (rfl)
@[simp] theorem evalLen_mp (ks vs : List D) (T : TypeId) : evalLen P (.d (.mp ks vs)) T = if isMap P T = true then some (.d (.v (.int .i64 ks.length))) else none := (rfl)
@[simp] theorem rowS_ps (cs : List D) (n : Nat) : rowS (.d (.ps cs n)) = some (cs, n) := (rfl)
@[simp] theorem rowS_fl (cs : List D) (n : Nat) : rowS (.fl cs n) = some (cs, n) := (rfl)
@[simp] theorem rowS_tp (i q : Nat) (cs : List D) (n : Nat) : rowS (.tp i q cs n) = some (cs, n) := (rfl)

def rowAt (i : Int) : Option (List D × Nat) → Option (TypeId × Nat) → Option SV
  | some (cs, n), some (_, sz) => onlyIf (0 ≤ i ∧ i < n) (.d (.pp cs (i.toNat * sz)))
  | _, _ => none
@[simp] theorem rowAt_some (i : Int) (cs : List D) (n e sz : Nat) : rowAt i (some (cs, n)) (some (e, sz)) = onlyIf (0 ≤ i ∧ i < n) (.d (.pp cs (i.toNat * sz))) := (rfl)
@[simp] theorem evalIndexAddr_ps (T : TypeId) (cs : List D) (n : Nat) (i : Int) : evalIndexAddr P T (.d (.ps cs n)) i = rowAt i (some (cs, n)) (elemOf P T) := (rfl)
@[simp] theorem evalIndexAddr_fl (T : TypeId) (cs : List D) (n : Nat) (i : Int) : evalIndexAddr P T (.fl cs n) i = rowAt i (some (cs, n)) (elemOf P T) := (rfl)
@[simp] theorem evalIndexAddr_tp (T : TypeId) (j q : Nat) (cs : List D) (n : Nat) (i : Int) : evalIndexAddr P T (.tp j q cs n) i = rowAt i (some (cs, n)) (elemOf P T) := (rfl)
def osAt (b off n : Nat) (i : Int) : Option (TypeId × Nat) → Option SV
  | some (_, sz) => onlyIf (0 ≤ i ∧ i < n) (.op b (off + i.toNat * sz))
  | none => none
@[simp] theorem osAt_some (b off n : Nat) (i : Int) (e sz : Nat) : osAt b off n i (some (e, sz)) = onlyIf (0 ≤ i ∧ i < n) (.op b (off + i.toNat * sz)) := (rfl)
@[simp] theorem evalIndexAddr_os (T : TypeId) (b off n : Nat) (i : Int) : evalIndexAddr P T (.os b off n) i = osAt b off n i (elemOf P T) := (rfl)
def skAt (b n : Nat) (i : Int) : Option (TypeId × Nat) → Option SV
  | some (_, sz) => onlyIf (0 ≤ i ∧ i < n) (.op b (i.toNat * sz))
  | none => none
@[simp] theorem skAt_some (b n : Nat) (i : Int) (e sz : Nat) : skAt b n i (some (e, sz)) = onlyIf (0 ≤ i ∧ i < n) (.op b (i.toNat * sz)) := (rfl)
@[simp] theorem evalIndexAddr_sk (T : TypeId) (b n sz : Nat) (i : Int) : evalIndexAddr P T (.sk b n sz) i = skAt b n i (elemOf P T) := (rfl)
def arrAt (f : Nat → SV) (i : Int) : Option (Nat × Nat) → Option SV
  | some (n, sz) => onlyIf (0 ≤ i ∧ i < n) (f (i.toNat * sz))
  | none => none
@[simp] theorem arrAt_some (f : Nat → SV) (i : Int) (n sz : Nat) : arrAt f i (some (n, sz)) = onlyIf (0 ≤ i ∧ i < n) (f (i.toNat * sz)) := (rfl)
@[simp] theorem evalIndexAddr_op (T : TypeId) (b off : Nat) (i : Int) : evalIndexAddr P T (.op b off) i = arrAt (fun k => .op b (off + k)) i (arrayOf P T) := (rfl)
@[simp] theorem evalIndexAddr_pp (T : TypeId) (cs : List D) (off : Nat) (i : Int) : evalIndexAddr P T (.d (.pp cs off)) i = arrAt (fun k => .d (.pp cs (off + k))) i (arrayOf P T) := (rfl)

@[simp] theorem onlyIf_map {α β : Type} (c : Prop) [Decidable c] (x : α) (f : α → β) : (onlyIf c x).map f = onlyIf c (f x) := by
  unfold onlyIf
  split <;> rfl
@[simp] theorem onlyIf_true {α : Type} (x : α) : onlyIf True x = some x := (rfl)
theorem onlyIf_and {α : Type} (c : Prop) [Decidable c] (h : c) (x : α) : onlyIf c x = some x := if_pos h

@[simp] theorem mkIfc_d (T : TypeId) (x : D) : mkIfc T (.d x) = .d (.ifc T x) := (rfl)
@[simp] theorem mkIfc_fl (T : TypeId) (cs : List D) (n : Nat) : mkIfc T (.fl cs n) = .fc T (.fl cs n) := (rfl)
@[simp] theorem mkIfc_tp (T : TypeId) (i q : Nat) (cs : List D) (n : Nat) : mkIfc T (.tp i q cs n) = .fc T (.tp i q cs n) := (rfl)
@[simp] theorem mkIfc_ag (T : TypeId) (cs : List SV) : mkIfc T (.ag cs) = .fc T (.ag cs) := (rfl)
@[simp] theorem tupS_tu (cs : List SV) (i : Nat) : tupS (.tu cs) i = cs[i]? := (rfl)
@[simp] theorem tupS_tup (cs : List D) (i : Nat) : tupS (.d (.tup cs)) i = cs[i]?.map .d := (rfl)

def assertC (P : Program) (A : TypeId) (t : TypeId) (s : SV) : Bool → Option SV → Option SV
  | true, some z => some (if t = A then .tu [s, .d (.v (.bool true))] else .tu [z, .d (.v (.bool false))])
  | _, _ => none
@[simp] theorem assertC_some (A t : TypeId) (s z : SV) : assertC P A t s true (some z) = some (if t = A then .tu [s, .d (.v (.bool true))] else .tu [z, .d (.v (.bool false))]) := (rfl)
@[simp] theorem evalAssert_ifc (A t : TypeId) (x : D) : evalAssert P A true (.d (.ifc t x)) = assertC P A t (.d x) (concrete P A) (zeroS P A) := by
  unfold evalAssert assertC
  cases concrete P A <;> cases zeroS P A <;> rfl
def assertN : Bool → Option SV → Option SV
  | true, some z => some (.tu [z, .d (.v (.bool false))])
  | _, _ => none
@[simp] theorem assertN_some (z : SV) : assertN true (some z) = some (.tu [z, .d (.v (.bool false))]) := (rfl)
@[simp] theorem evalAssert_nil (A : TypeId) : evalAssert P A true (.d (.v .nilIface)) = assertN (concrete P A) (zeroS P A) := (rfl)

/-! ### bounds, parts, new rows, conversions, append -/
def intO : Option SV → Option Int
  | some (.d (.v (.int _ n))) => some n
  | _ => none
@[simp] theorem intO_some (k : IntKind) (n : Int) : intO (some (.d (.v (.int k n)))) = some n := (rfl)
@[simp] theorem bndS_none (d : Nat) : bndS E d none = some (d : Int) := (rfl)
@[simp] theorem bndS_some (d : Nat) (x : Operand) : bndS E d (some x) = intO (evalO E x) := by
  show (match evalO E x with | some (.d (.v (.int _ n))) => some n | _ => none) = _
  rfl
def sliceStr (b : ByteArray) : Option Int → Option Int → Bool → Option SV
  | some l, some u, true => onlyIf (0 ≤ l ∧ l ≤ u ∧ u ≤ b.size) (.d (.v (.string (b.extract l.toNat u.toNat))))
  | _, _, _ => none
@[simp] theorem sliceStr_some (b : ByteArray) (l u : Int) : sliceStr b (some l) (some u) true = onlyIf (0 ≤ l ∧ l ≤ u ∧ u ≤ b.size) (.d (.v (.string (b.extract l.toNat u.toNat)))) := (rfl)
@[simp] theorem evalSlice_string (T : TypeId) (b : ByteArray) (lo hi : Option Operand) : evalSlice P E S T (.d (.v (.string b))) lo hi = sliceStr b (bndS E 0 lo) (bndS E b.size hi) (isString P T) := (rfl)
def sliceRow (cs : List D) (n : Nat) : Option (TypeId × Nat) → Option Int → Option Int → Option SV
  | some (_, sz), some l, some u => onlyIf (0 ≤ l ∧ l ≤ u ∧ u ≤ n) (.d (.ps ((cs.drop (l.toNat * sz)).take ((u.toNat - l.toNat) * sz)) (u.toNat - l.toNat)))
  | _, _, _ => none
@[simp] theorem sliceRow_some (cs : List D) (n e sz : Nat) (l u : Int) : sliceRow cs n (some (e, sz)) (some l) (some u) = onlyIf (0 ≤ l ∧ l ≤ u ∧ u ≤ n) (.d (.ps ((cs.drop (l.toNat * sz)).take ((u.toNat - l.toNat) * sz)) (u.toNat - l.toNat))) := (rfl)
@[simp] theorem evalSlice_ps (T : TypeId) (cs : List D) (n : Nat) (lo hi : Option Operand) : evalSlice P E S T (.d (.ps cs n)) lo hi = sliceRow cs n (elemOf P T) (bndS E 0 lo) (bndS E n hi) := (rfl)
@[simp] theorem evalSlice_fl (T : TypeId) (cs : List D) (n : Nat) (lo hi : Option Operand) : evalSlice P E S T (.fl cs n) lo hi = sliceRow cs n (elemOf P T) (bndS E 0 lo) (bndS E n hi) := (rfl)
def sliceSk (b n sz : Nat) : Option (TypeId × Nat) → Option Int → Option SV
  | some _, some u => onlyIf (0 ≤ u ∧ u ≤ n) (.sk b u.toNat sz)
  | _, _ => none
@[simp] theorem sliceSk_some (b n sz : Nat) (x : TypeId × Nat) (u : Int) : sliceSk b n sz (some x) (some u) = onlyIf (0 ≤ u ∧ u ≤ n) (.sk b u.toNat sz) := (rfl)
@[simp] theorem evalSlice_sk (T : TypeId) (b n sz : Nat) (hi : Option Operand) : evalSlice P E S T (.sk b n sz) none hi = sliceSk b n sz (elemOf P T) (bndS E n hi) := by
  show (match elemOf P T, bndS E n hi with | some _, some u => onlyIf (0 ≤ u ∧ u ≤ n) (SV.sk b u.toNat sz) | _, _ => none) = _
  cases elemOf P T <;> cases bndS E n hi <;> rfl
@[simp] theorem evalSlice_tp_hi (T : TypeId) (i q : Nat) (cs : List D) (n : Nat) (lo : Option Operand) (h : Operand) : evalSlice P E S T (.tp i q cs n) lo (some h) = sliceRow cs n (elemOf P T) (bndS E 0 lo) (bndS E n (some h)) := (rfl)
def sliceTip (T : Nat → Option (Nat × Nat)) (i q : Nat) (cs : List D) (n : Nat) : Option (TypeId × Nat) → Option Int → Option SV
  | some (_, sz), some l => onlyIf (T i = some (q + n, sz) ∧ 0 ≤ l ∧ l ≤ n ∧ cs.length = n * sz) (.tp i (q + l.toNat) (cs.drop (l.toNat * sz)) (n - l.toNat))
  | _, _ => none
@[simp] theorem sliceTip_some (T : Nat → Option (Nat × Nat)) (i q : Nat) (cs : List D) (n e sz : Nat) (l : Int) : sliceTip T i q cs n (some (e, sz)) (some l) = onlyIf (T i = some (q + n, sz) ∧ 0 ≤ l ∧ l ≤ n ∧ cs.length = n * sz) (.tp i (q + l.toNat) (cs.drop (l.toNat * sz)) (n - l.toNat)) := (rfl)
@[simp] theorem evalSlice_tp (T : TypeId) (i q : Nat) (cs : List D) (n : Nat) (lo : Option Operand) : evalSlice P E S T (.tp i q cs n) lo none = sliceTip S.T i q cs n (elemOf P T) (bndS E 0 lo) := (rfl)
def sliceOs (b off n : Nat) : Option (TypeId × Nat) → Option Int → Option Int → Option SV
  | some (_, sz), some l, some u => onlyIf (0 ≤ l ∧ l < u ∧ u ≤ n) (.os b (off + l.toNat * sz) (u.toNat - l.toNat))
  | _, _, _ => none
@[simp] theorem sliceOs_some (b off n e sz : Nat) (l u : Int) : sliceOs b off n (some (e, sz)) (some l) (some u) = onlyIf (0 ≤ l ∧ l < u ∧ u ≤ n) (.os b (off + l.toNat * sz) (u.toNat - l.toNat)) := (rfl)
@[simp] theorem evalSlice_os (T : TypeId) (b off n : Nat) (lo hi : Option Operand) : evalSlice P E S T (.os b off n) lo hi = sliceOs b off n (elemOf P T) (bndS E 0 lo) (bndS E n hi) := (rfl)
def sliceArr (E : Env) (f : Nat → Nat → SV) (lo hi : Option Operand) : Option (Nat × Nat) → Option SV
  | some (n, sz) => match bndS E 0 lo, bndS E n hi with
    | some l, some u => onlyIf (0 ≤ l ∧ l < u ∧ u ≤ n) (f (l.toNat * sz) (u.toNat - l.toNat))
    | _, _ => none
  | none => none
def sliceArr2 (f : Nat → Nat → SV) (n sz : Nat) : Option Int → Option Int → Option SV
  | some l, some u => onlyIf (0 ≤ l ∧ l < u ∧ u ≤ n) (f (l.toNat * sz) (u.toNat - l.toNat))
  | _, _ => none
@[simp] theorem sliceArr2_some (f : Nat → Nat → SV) (n sz : Nat) (l u : Int) : sliceArr2 f n sz (some l) (some u) = onlyIf (0 ≤ l ∧ l < u ∧ u ≤ n) (f (l.toNat * sz) (u.toNat - l.toNat)) := (rfl)
@[simp] theorem sliceArr_some (f : Nat → Nat → SV) (lo hi : Option Operand) (n sz : Nat) : sliceArr E f lo hi (some (n, sz)) = sliceArr2 f n sz (bndS E 0 lo) (bndS E n hi) := (rfl)
@[simp] theorem evalSlice_op (T : TypeId) (b off : Nat) (lo hi : Option Operand) : evalSlice P E S T (.op b off) lo hi = sliceArr E (fun k m => .os b (off + k) m) lo hi (arrayOf P T) := (rfl)

def makeC (md : List Nat) (id : Nat) (dst : Option Nat) (l c : Int) : Option (List SV × Nat × Nat) → Option (SV × Eff)
  | some (zs, sz, by_) => if (dst.any fun d => md.contains d) = true then onlyIf (l = 0 ∧ 0 < sz ∧ 0 ≤ c ∧ (by_ : Int) * c ≤ 281474976710656 ∧ c ≤ 9223372036854775807) (.tp id 0 [] 0, .tip id 0 sz)
    else onlyIf (c = l ∧ 0 ≤ l ∧ (by_ : Int) * l ≤ 281474976710656 ∧ l ≤ 9223372036854775807) (.os id 0 l.toNat, .new ((List.range (l.toNat * sz)).map fun j => zs.getD (j % sz) (.d (.v undef))))
  | none => none
/-- A new row's cells. -/
def madeS (zs : List SV) (sz n : Nat) : List SV := (List.range (n * sz)).map fun j => zs.getD (j % sz) (.d (.v undef))
@[simp] theorem makeC_some (md : List Nat) (id : Nat) (dst : Option Nat) (l c : Int) (zs : List SV) (sz by_ : Nat) : makeC md id dst l c (some (zs, sz, by_)) = if (dst.any fun d => md.contains d) = true then onlyIf (l = 0 ∧ 0 < sz ∧ 0 ≤ c ∧ (by_ : Int) * c ≤ 281474976710656 ∧ c ≤ 9223372036854775807) (.tp id 0 [] 0, .tip id 0 sz)
    else onlyIf (c = l ∧ 0 ≤ l ∧ (by_ : Int) * l ≤ 281474976710656 ∧ l ≤ 9223372036854775807) (.os id 0 l.toNat, .new (madeS zs sz l.toNat)) := (rfl)
@[simp] theorem evalMake_int (id : Nat) (d : Option Nat) (T : TypeId) (k k' : IntKind) (l c : Int) : evalMake P S id d T (.d (.v (.int k l))) (.d (.v (.int k' c))) = makeC S.md id d l c (makeOf P T) := by
  unfold evalMake makeC
  cases makeOf P T <;> rfl

def convInt (n : Int) : Option IntKind → Bool → Option (SV × Eff)
  | some k, true => some (.d (.v (.int k (k.wrap n))), .no)
  | _, _ => none
@[simp] theorem convInt_some (n : Int) (k : IntKind) : convInt n (some k) true = some (.d (.v (.int k (k.wrap n))), .no) := (rfl)
@[simp] theorem evalConv_int (id T U : Nat) (k : IntKind) (n : Int) : evalConv P id T U (.d (.v (.int k n))) = convInt n (intKindOf P U) (known P T) := (rfl)
def convStr (id : Nat) (b : ByteArray) : Bool → Option TypeId → Option (SV × Eff)
  | true, some _ => some (.d (.ps (bytesD b) b.size), .no)
  | _, _ => none
@[simp] theorem convStr_some (id : Nat) (b : ByteArray) (e : TypeId) : convStr id b true (some e) = some (.d (.ps (bytesD b) b.size), .no) := (rfl)
@[simp] theorem evalConv_string (id T U : Nat) (b : ByteArray) : evalConv P id T U (.d (.v (.string b))) = convStr id b (isString P T) (bytesOf P U) := (rfl)
def convRow (n : Nat) : Option (List Int) → Option TypeId → Bool → Option (SV × Eff)
  | some ns, some _, true => onlyIf (ns.length = n) (.d (.v (.string (strOfNums ns))), .no)
  | _, _, _ => none
@[simp] theorem convRow_some (n : Nat) (ns : List Int) (e : TypeId) : convRow n (some ns) (some e) true = onlyIf (ns.length = n) (.d (.v (.string (strOfNums ns))), .no) := (rfl)
@[simp] theorem evalConv_ps (id T U : Nat) (cs : List D) (n : Nat) : evalConv P id T U (.d (.ps cs n)) = convRow n (numsOf cs) (bytesOf P T) (isString P U) := (rfl)
@[simp] theorem evalConv_fl (id T U : Nat) (cs : List D) (n : Nat) : evalConv P id T U (.fl cs n) = convRow n (numsOf cs) (bytesOf P T) (isString P U) := (rfl)
@[simp] theorem evalConv_tp (id T U i q : Nat) (cs : List D) (n : Nat) : evalConv P id T U (.tp i q cs n) = convRow n (numsOf cs) (bytesOf P T) (isString P U) := (rfl)

def appFl (md : List Nat) (id : Nat) (dst : Option Nat) (cs : List D) (n : Nat) : Option (List D × Nat) → Option (TypeId × Nat × Nat) → Option (SV × Eff)
  | some (ds, m), some (_, sz, by_) => if m = 0 then some (.fl cs n, .no) else
        if (dst.any fun d => md.contains d) = true then onlyIf (cs.length = n * sz ∧ ds.length = m * sz ∧ appBound n m by_) (.os id 0 (n + m), .new ((cs ++ ds).map .d))
        else onlyIf (cs.length = n * sz ∧ ds.length = m * sz ∧ appBound n m by_) (.tp id 0 (cs ++ ds) (n + m), .tip id (n + m) sz)
  | _, _ => none
@[simp] theorem appFl_some (md : List Nat) (id : Nat) (dst : Option Nat) (cs ds : List D) (n m e sz by_ : Nat) : appFl md id dst cs n (some (ds, m)) (some (e, sz, by_)) = if m = 0 then some (.fl cs n, .no) else
        if (dst.any fun d => md.contains d) = true then onlyIf (cs.length = n * sz ∧ ds.length = m * sz ∧ appBound n m by_) (.os id 0 (n + m), .new ((cs ++ ds).map .d))
        else onlyIf (cs.length = n * sz ∧ ds.length = m * sz ∧ appBound n m by_) (.tp id 0 (cs ++ ds) (n + m), .tip id (n + m) sz) := (rfl)
@[simp] theorem evalAppend_fl (id : Nat) (d : Option Nat) (T : TypeId) (cs : List D) (n : Nat) (t : SV) : evalAppend P S id d T (.fl cs n) t = appFl S.md id d cs n (rowS t) (appOf P T) := by
  unfold evalAppend appFl
  cases rowS t <;> cases appOf P T <;> rfl
def appTp (T : Nat → Option (Nat × Nat)) (i q : Nat) (cs : List D) (n : Nat) : Option (List D × Nat) → Option (TypeId × Nat × Nat) → Option (SV × Eff)
  | some (ds, m), some (_, sz, by_) => onlyIf (T i = some (q + n, sz) ∧ cs.length = n * sz ∧ ds.length = m * sz ∧ appBound n m by_) (.tp i q (cs ++ ds) (n + m), .tip i (q + (n + m)) sz)
  | _, _ => none
@[simp] theorem appTp_some (T : Nat → Option (Nat × Nat)) (i q : Nat) (cs ds : List D) (n m e sz by_ : Nat) : appTp T i q cs n (some (ds, m)) (some (e, sz, by_)) = onlyIf (T i = some (q + n, sz) ∧ cs.length = n * sz ∧ ds.length = m * sz ∧ appBound n m by_) (.tp i q (cs ++ ds) (n + m), .tip i (q + (n + m)) sz) := (rfl)
@[simp] theorem evalAppend_tp (id : Nat) (d : Option Nat) (T i q : Nat) (cs : List D) (n : Nat) (t : SV) : evalAppend P S id d T (.tp i q cs n) t = appTp S.T i q cs n (rowS t) (appOf P T) := by
  unfold evalAppend appTp
  cases rowS t <;> cases appOf P T <;> rfl

def appSk (id b n sz' : Nat) : Option (List SV) → Option (List D × Nat) → Option (TypeId × Nat × Nat) → Option (SV × Eff)
  | some cs, some (ds, m), some (_, sz, by_) => onlyIf (sz' = sz ∧ 0 < m ∧ n * sz ≤ cs.length ∧ ds.length = m * sz ∧ appBound n m by_) (.sk id (n + m) sz, .mov b (cs.take (n * sz) ++ ds.map .d))
  | _, _, _ => none
@[simp] theorem appSk_some (id b n sz' : Nat) (cs : List SV) (ds : List D) (m e sz by_ : Nat) : appSk id b n sz' (some cs) (some (ds, m)) (some (e, sz, by_)) = onlyIf (sz' = sz ∧ 0 < m ∧ n * sz ≤ cs.length ∧ ds.length = m * sz ∧ appBound n m by_) (.sk id (n + m) sz, .mov b (cs.take (n * sz) ++ ds.map .d)) := (rfl)
@[simp] theorem evalAppend_sk (id : Nat) (d : Option Nat) (T b n sz : Nat) (t : SV) : evalAppend P S id d T (.sk b n sz) t = appSk id b n sz (S.B b) (rowS t) (appOf P T) := by
  show (match rowS t, appOf P T with
    | some (ds, m), some (_, sz1, by_) => (match S.B b with
      | some cs => onlyIf (sz = sz1 ∧ 0 < m ∧ n * sz1 ≤ cs.length ∧ ds.length = m * sz1 ∧ appBound n m by_) (SV.sk id (n + m) sz1, Eff.mov b (cs.take (n * sz1) ++ ds.map SV.d))
      | none => none)
    | _, _ => none) = _
  cases rowS t <;> cases appOf P T <;> cases S.B b <;> rfl

/-! ### maps -/
@[simp] theorem idxK_nil (s : ByteArray) : idxK [] s = some none := (rfl)
@[simp] theorem idxK_consS (k : ByteArray) (ks : List D) (s : ByteArray) : idxK (.v (.string k) :: ks) s = if k = s then some (some 0) else (idxK ks s).map (·.map (· + 1)) := (rfl)
def lookI (P : Program) (vs : List SV) (ok : Bool) : Option TypeId → Option (Option Nat) → Option SV
  | some e, some (some j) => lookR P e vs[j]? ok
  | some e, some none => lookR P e none ok
  | _, _ => none
/-- A look-up, once the key's place is known. -/
theorem lookS_at {T e : TypeId} {ks : List D} {vs : List SV} {s : ByteArray} {ok : Bool} {j : Nat} {v : SV} (hT : Sh.mapOf P T = some e) (hi : idxK ks s = some (some j)) (hv : vs[j]? = some v) : lookS P T ks vs s ok = some (if ok then .tu [v, .d (.v (.bool true))] else v) := by
  simp [lookS, hT, hi, hv, lookR]
theorem lookS_none {T e : TypeId} {ks : List D} {vs : List SV} {s : ByteArray} {ok : Bool} {z : SV} (hT : Sh.mapOf P T = some e) (hi : idxK ks s = some none) (hz : zeroS P e = some z) : lookS P T ks vs s ok = some (if ok then .tu [z, .d (.v (.bool false))] else z) := by
  simp [lookS, hT, hi, hz, lookR]
theorem updK_at {ks : List D} {vs : List SV} {s : ByteArray} {v : SV} {j : Nat} (hi : idxK ks s = some (some j)) : updK ks vs s v = some (.mc ks (vs.set j v)) := by simp [updK, hi]
theorem updK_none {ks : List D} {vs : List SV} {s : ByteArray} {v : SV} (hi : idxK ks s = some none) : updK ks vs s v = some (.mc (ks ++ [.v (.string s)]) (vs ++ [v])) := by simp [updK, hi]
theorem idxK_map {α : Type} (f : α → ByteArray) (s : ByteArray) : ∀ l : List α, idxK (l.map fun x => .v (.string (f x))) s = some (l.findIdx? fun x => decide (f x = s))
  | [] => rfl
  | x :: r => by
    simp only [List.map_cons, idxK_consS, idxK_map f s r, Option.map_some, List.findIdx?_cons]
    by_cases h : f x = s <;> simp [h]

/-! ### numbers and texts -/
@[simp] theorem binS_add (T : TypeId) (k : IntKind) (a b : Int) : binS P .add T (.int k a) (.int k b) = some (.int k (k.wrap (a + b))) := by simp [binS, isShift, intBin]
@[simp] theorem binS_sub (T : TypeId) (k : IntKind) (a b : Int) : binS P .sub T (.int k a) (.int k b) = some (.int k (k.wrap (a - b))) := by simp [binS, isShift, intBin]
@[simp] theorem binS_mul (T : TypeId) (k : IntKind) (a b : Int) : binS P .mul T (.int k a) (.int k b) = some (.int k (k.wrap (a * b))) := by simp [binS, isShift, intBin]
@[simp] theorem binS_quo (T : TypeId) (k : IntKind) (a b : Int) : binS P .quo T (.int k a) (.int k b) = if b = 0 then none else some (.int k (k.wrap (a.tdiv b))) := by simp [binS, isShift, intBin]
@[simp] theorem binS_rem (T : TypeId) (k : IntKind) (a b : Int) : binS P .rem T (.int k a) (.int k b) = if b = 0 then none else some (.int k (a.tmod b)) := by simp [binS, isShift, intBin]
@[simp] theorem binS_eql (T : TypeId) (k : IntKind) (a b : Int) : binS P .eql T (.int k a) (.int k b) = some (.bool (decide (a = b))) := by
  have : (a == b) = decide (a = b) := by rw [Bool.eq_iff_iff]; simp
  simp [binS, isShift, intBin, this]
@[simp] theorem binS_neq (T : TypeId) (k : IntKind) (a b : Int) : binS P .neq T (.int k a) (.int k b) = some (.bool (!decide (a = b))) := by
  have : (a == b) = decide (a = b) := by rw [Bool.eq_iff_iff]; simp
  simp [binS, isShift, intBin, bne, this]
@[simp] theorem binS_lss (T : TypeId) (k : IntKind) (a b : Int) : binS P .lss T (.int k a) (.int k b) = some (.bool (decide (a < b))) := by simp [binS, isShift, intBin]
@[simp] theorem binS_leq (T : TypeId) (k : IntKind) (a b : Int) : binS P .leq T (.int k a) (.int k b) = some (.bool (decide (a ≤ b))) := by simp [binS, isShift, intBin]
@[simp] theorem binS_gtr (T : TypeId) (k : IntKind) (a b : Int) : binS P .gtr T (.int k a) (.int k b) = some (.bool (decide (b < a))) := by simp [binS, isShift, intBin]
@[simp] theorem binS_geq (T : TypeId) (k : IntKind) (a b : Int) : binS P .geq T (.int k a) (.int k b) = some (.bool (decide (b ≤ a))) := by simp [binS, isShift, intBin]
@[simp] theorem binS_and (T : TypeId) (k : IntKind) (a b : Int) : binS P .and T (.int k a) (.int k b) = some (.int k (k.wrap (BitVec.ofInt k.bits a &&& BitVec.ofInt k.bits b).toNat)) := by simp [binS, isShift, intBin]
@[simp] theorem binS_or (T : TypeId) (k : IntKind) (a b : Int) : binS P .or T (.int k a) (.int k b) = some (.int k (k.wrap (BitVec.ofInt k.bits a ||| BitVec.ofInt k.bits b).toNat)) := by simp [binS, isShift, intBin]
@[simp] theorem binS_xor (T : TypeId) (k : IntKind) (a b : Int) : binS P .xor T (.int k a) (.int k b) = some (.int k (k.wrap (BitVec.ofInt k.bits a ^^^ BitVec.ofInt k.bits b).toNat)) := by simp [binS, isShift, intBin]
@[simp] theorem binS_shl (T : TypeId) (k k' : IntKind) (a b : Int) : binS P .shl T (.int k a) (.int k' b) = if b < 0 then none else some (.int k (k.wrap (a * 2 ^ min b.toNat k.bits))) := by simp [binS, isShift, shiftBin]
@[simp] theorem binS_shr (T : TypeId) (k k' : IntKind) (a b : Int) : binS P .shr T (.int k a) (.int k' b) = if b < 0 then none else some (.int k (a.fdiv (2 ^ min b.toNat k.bits))) := by simp [binS, isShift, shiftBin]
theorem toList_eq {a b : ByteArray} : (a.toList == b.toList) = decide (a = b) := by
  have inj : a.toList = b.toList ↔ a = b := by
    constructor
    · intro h
      have e : ∀ x : ByteArray, x.toList = x.data.toList := fun x => Go.ByteArray.toList_eq x
      rw [e, e] at h
      cases a; cases b; simp only at h
      congr 1
      exact Array.ext' h
    · rintro rfl; rfl
  by_cases h : a = b
  · subst h; simp
  · rw [decide_eq_false h]
    simp only [beq_eq_false_iff_ne, ne_eq, inj]
    exact h
@[simp] theorem binS_seql (T : TypeId) (a b : ByteArray) : binS P .eql T (.string a) (.string b) = some (.bool (decide (a = b))) := by simp [binS, strBin, toList_eq]
@[simp] theorem binS_sneq (T : TypeId) (a b : ByteArray) : binS P .neq T (.string a) (.string b) = some (.bool (!decide (a = b))) := by simp [binS, strBin, toList_eq]
@[simp] theorem binS_sadd (T : TypeId) (a b : ByteArray) : binS P .add T (.string a) (.string b) = if a.size + b.size ≤ 9223372036854775807 then some (.string (a ++ b)) else none := by simp [binS, strBin]
@[simp] theorem unS_not (b : Bool) : unS .not (.bool b) = some (.bool (!b)) := (rfl)
@[simp] theorem unS_neg (k : IntKind) (n : Int) : unS .neg (.int k n) = some (.int k (k.wrap (0 - n))) := (rfl)
@[simp] theorem unS_xor (k : IntKind) (n : Int) : unS .xor (.int k n) = some (.int k (k.wrap (BitVec.ofInt k.bits (if k.signed then -1 else k.max) ^^^ BitVec.ofInt k.bits n).toNat)) := (rfl)

/-! ### results -/
@[simp] theorem resS_nil : resS P E S [] = some (.tu []) := (rfl)
@[simp] theorem resS_one (x : ResultVar) : resS P E S [x] = resOne P E S x := by
  simp only [resS, resList]
  cases resOne P E S x <;> rfl
@[simp] theorem resS_two (x y : ResultVar) : resS P E S [x, y] = (consO (resOne P E S x) (consO (resOne P E S y) (some []))).map .tu := by
  simp only [resS, resList]
  cases resOne P E S x <;> cases resOne P E S y <;> rfl
@[simp] theorem resS_three (x y z : ResultVar) : resS P E S [x, y, z] = (consO (resOne P E S x) (consO (resOne P E S y) (consO (resOne P E S z) (some [])))).map .tu := by
  simp only [resS, resList]
  cases resOne P E S x <;> cases resOne P E S y <;> cases resOne P E S z <;> rfl
@[simp] theorem resOne_tmp (t : Nat) : resOne P E S (.tmp t) = evalO E (.tmp t) := (rfl)
def cellE (P : Program) (T : TypeId) (B : Nat → Option (List SV)) : Option SV → Option SV
  | some (.op b off) => match B b with
    | some cs => loadS P T cs off
    | none => none
  | _ => none
def cellB (P : Program) (T : TypeId) (off : Nat) : Option (List SV) → Option SV
  | some cs => loadS P T cs off
  | none => none
@[simp] theorem cellB_some (T off : Nat) (cs : List SV) : cellB P T off (some cs) = loadS P T cs off := (rfl)
@[simp] theorem cellE_op (T : TypeId) (B : Nat → Option (List SV)) (b off : Nat) : cellE P T B (some (.op b off)) = cellB P T off (B b) := (rfl)
@[simp] theorem resOne_cell (t T : Nat) : resOne P E S (.cell t T) = cellE P T S.B (evalO E (.tmp t)) := (rfl)
variable {B : Nat → Option (List SV)}
@[simp] theorem frz_d (k : Nat) (x : D) : frz B (k + 1) (.d x) = some x := (rfl)
@[simp] theorem frz_d16 (x : D) : frz B 16 (.d x) = some x := (rfl)
@[simp] theorem frz_fl (k : Nat) (cs : List D) (n : Nat) : frz B (k + 1) (.fl cs n) = some (.ps cs n) := (rfl)
@[simp] theorem frz_tp (k i q : Nat) (cs : List D) (n : Nat) : frz B (k + 1) (.tp i q cs n) = some (.ps cs n) := (rfl)
@[simp] theorem frz_ag (k : Nat) (cs : List SV) : frz B (k + 1) (.ag cs) = (mapO (frz B k) cs).map .agg := (rfl)
@[simp] theorem frz_tu (k : Nat) (cs : List SV) : frz B (k + 1) (.tu cs) = (mapO (frz B k) cs).map .tup := (rfl)
@[simp] theorem frz_fc (k : Nat) (t : TypeId) (x : SV) : frz B (k + 1) (.fc t x) = (frz B k x).map (.ifc t) := (rfl)
def frzP (B : Nat → Option (List SV)) (k off : Nat) : Option (List SV) → Option D
  | some cs => (mapO (frz B k) cs).map fun ds => .pp ds off
  | none => none
@[simp] theorem frzP_some (k off : Nat) (cs : List SV) : frzP B k off (some cs) = (mapO (frz B k) cs).map fun ds => .pp ds off := (rfl)
@[simp] theorem frz_op (k b off : Nat) : frz B (k + 1) (.op b off) = frzP B k off (B b) := (rfl)
def frzS (B : Nat → Option (List SV)) (k off n : Nat) : Option (List SV) → Option D
  | some cs => (mapO (frz B k) cs).map fun ds => .ps (ds.drop off) n
  | none => none
@[simp] theorem frzS_some (k off n : Nat) (cs : List SV) : frzS B k off n (some cs) = (mapO (frz B k) cs).map fun ds => .ps (ds.drop off) n := (rfl)
@[simp] theorem frz_os (k b off n : Nat) : frz B (k + 1) (.os b off n) = frzS B k off n (B b) := (rfl)
@[simp] theorem frz_fn (k : Nat) (f : Fn) (xs ys : List SV) : frz B (k + 1) (.fn f xs ys) = fnO f (mapO (frz B k) xs) (mapO (frz B k) ys) := by
  simp only [frz]
  cases mapO (frz B k) xs <;> cases mapO (frz B k) ys <;> rfl
def frzSk (B : Nat → Option (List SV)) (k n : Nat) : Option (List SV) → Option D
  | some cs => (mapO (frz B k) cs).map fun ds => .ps ds n
  | none => none
@[simp] theorem frzSk_some (k n : Nat) (cs : List SV) : frzSk B k n (some cs) = (mapO (frz B k) cs).map fun ds => .ps ds n := (rfl)
@[simp] theorem frz_sk (k b n sz : Nat) : frz B (k + 1) (.sk b n sz) = frzSk B k n (B b) := (rfl)
def frzMv (B : Nat → Option (List SV)) (k : Nat) : Option (List SV) → Option D
  | some [.mc ks vs] => (mapO (frz B k) vs).map (.mp ks)
  | _ => none
@[simp] theorem frzMv_some (k : Nat) (ks : List D) (vs : List SV) : frzMv B k (some [.mc ks vs]) = (mapO (frz B k) vs).map (.mp ks) := (rfl)
@[simp] theorem frz_mv (k b : Nat) : frz B (k + 1) (.mv b) = frzMv B k (B b) := by
  simp only [frz, frzMv]
  rfl
@[simp] theorem mapO_nil {α β : Type} (f : α → Option β) : mapO f [] = some [] := (rfl)
@[simp] theorem mapO_cons {α β : Type} (f : α → Option β) (x : α) (r : List α) : mapO f (x :: r) = consO (f x) (mapO f r) := by
  simp only [mapO, consO]
  split <;> simp_all
@[simp] theorem mapO_d (k : Nat) (l : List D) : mapO (frz B (k + 1)) (l.map .d) = some l := by
  have := mapO_map (f := frz B (k + 1)) (g := SV.d) (k := fun x => x) (fun x => rfl) l
  simpa using this
@[simp] theorem mapO_dcomp {α : Type} (k : Nat) (f : α → D) (l : List α) : mapO (frz B (k + 1)) (l.map (SV.d ∘ f)) = some (l.map f) := mapO_map (f := frz B (k + 1)) (g := SV.d ∘ f) (k := f) (fun x => rfl) l
@[simp] theorem mapO_dfun {α : Type} (k : Nat) (f : α → D) (l : List α) : mapO (frz B (k + 1)) (l.map fun x => .d (f x)) = some (l.map f) := mapO_map (f := frz B (k + 1)) (g := fun x => SV.d (f x)) (k := f) (fun x => rfl) l
end
@[simp] theorem numsOf_nil : numsOf [] = some [] := (rfl)
@[simp] theorem numsOf_cons (n : Int) (r : List D) : numsOf (.v (.int .u8 n) :: r) = (numsOf r).map (n :: ·) := (rfl)
/-! ### numbers of variables -/
@[simp] theorem le_add2 (n a0 a1 : Nat) : n ≤ n + a0 + a1 := by omega
@[simp] theorem le_add3 (n a0 a1 a2 : Nat) : n ≤ n + a0 + a1 + a2 := by omega
@[simp] theorem le_add4 (n a0 a1 a2 a3 : Nat) : n ≤ n + a0 + a1 + a2 + a3 := by omega
@[simp] theorem le_add5 (n a0 a1 a2 a3 a4 : Nat) : n ≤ n + a0 + a1 + a2 + a3 + a4 := by omega
@[simp] theorem le_add6 (n a0 a1 a2 a3 a4 a5 : Nat) : n ≤ n + a0 + a1 + a2 + a3 + a4 + a5 := by omega
@[simp] theorem le_add7 (n a0 a1 a2 a3 a4 a5 a6 : Nat) : n ≤ n + a0 + a1 + a2 + a3 + a4 + a5 + a6 := by omega
@[simp] theorem le_add8 (n a0 a1 a2 a3 a4 a5 a6 a7 : Nat) : n ≤ n + a0 + a1 + a2 + a3 + a4 + a5 + a6 + a7 := by omega
@[simp] theorem le_add9 (n a0 a1 a2 a3 a4 a5 a6 a7 a8 : Nat) : n ≤ n + a0 + a1 + a2 + a3 + a4 + a5 + a6 + a7 + a8 := by omega
@[simp] theorem le_add10 (n a0 a1 a2 a3 a4 a5 a6 a7 a8 a9 : Nat) : n ≤ n + a0 + a1 + a2 + a3 + a4 + a5 + a6 + a7 + a8 + a9 := by omega
end Go.Sh
