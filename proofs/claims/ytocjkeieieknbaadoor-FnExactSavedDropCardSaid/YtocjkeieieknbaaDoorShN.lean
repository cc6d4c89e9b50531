/- THE SHADOW, 12: code as a proposition without machine, and the words by which it is reckoned. Over any program. -/
import Derived.Test.YtocjkeieieknbaaDoorShM
set_option linter.unusedVariables false
set_option linter.unusedSimpArgs false
namespace Go.Sh
open Go.RowKit (Below)

section
variable {P : Program} {E E' : Env} {S S' : St}

def Cnd (r : Option SV) (x y : Prop) : Prop := match r with | some (.d (.v (.bool b))) => Br b x y | _ => False

/-- Code: what is left to show. A loop stands as it is. -/
def VC (P : Program) : Code → Env → St → (Exit → Env → St → Prop) → Prop
  | .skip, E, S, Q => Q .normal E S
  | .label _, E, S, Q => Q .normal E S
  | .exit id, E, S, Q => Q (.exit id) E S
  | .ret, E, S, Q => Q .ret E S
  | .seq x y, E, S, Q => VC P x E S (Then (fun E' S' => VC P y E' S' Q) Q)
  | .block id c, E, S, Q => VC P c E S (InBlock id Q)
  | .cond c x y, E, S, Q => Cnd (evalO E c) (VC P x E S Q) (VC P y E S Q)
  | .region _ ops false, E, S, Q => VL (fun _ => true) P ops S.nx 0 ops.toList E (S.adv ops.size) (fun E' S' => Q .normal E' S')
  | .region _ ops true, E, S, Q => (∃ sp, drawOk P ops sp = true ∧ SepT sp E) ∧ VL (loudAt ops.toList) P ops S.nx 0 ops.toList E (S.adv ops.size) (fun E' S' => Q .normal E' S')
  | c, E, S, Q => CS P c E S Q

theorem VC.sound : ∀ {c : Code} {E : Env} {S : St} {Q : Exit → Env → St → Prop}, VC P c E S Q → CS P c E S Q
  | .skip, E, S, Q, h => CS.skip h
  | .label _, E, S, Q, h => CS.label h
  | .exit id, E, S, Q, h => CS.exit h
  | .ret, E, S, Q, h => CS.ret h
  | .seq x y, E, S, Q, h => CS.seq ((VC.sound (c := x) h).mono (fun ex E' S' q => by
      cases ex with
      | normal => exact VC.sound (c := y) q
      | _ => exact q))
  | .block id c, E, S, Q, h => CS.block (VC.sound (c := c) h)
  | .cond c x y, E, S, Q, h => by
    unfold VC Cnd at h
    split at h
    · rename_i b hb
      exact CS.cond hb (fun e => VC.sound (h.1 e)) (fun e => VC.sound (h.2 e))
    · exact h.elim
  | .region id ops false, E, S, Q, h => by
    have := CS.region (P := P) (id := id) (ops := ops.toList) (Q := Q) (E := E) (S := S) (by
      have h3 := VL.sound (P := P) (ops := ops) h
      simpa using h3)
    simpa using this
  | .region id ops true, E, S, Q, h => by
    obtain ⟨⟨sp, h1, h2⟩, h3⟩ := h
    exact CS.draw sp h1 h2 h3
  | .loop c, E, S, Q, h => h
  | .rangeFunc .., E, S, Q, h => h
  | .scope _, E, S, Q, h => h
  | .goto _, E, S, Q, h => h
  | .refuse _, E, S, Q, h => h

/-! ### the words: a piece is opened only behind the word 'true', so that what waits for a test or a call stays shut -/
/-- The code, hidden from what looks into a proposition's parts. -/
abbrev Cd := Inhabited (Code)
abbrev Cd.c (self : Cd) : Code := self.default
abbrev Ar := Inhabited (Array Oper)
abbrev Ar.a (self : Ar) : Array Oper := self.default
abbrev Ls := Inhabited (List Oper)
abbrev Ls.l (self : Ls) : List Oper := self.default
abbrev Oc := Inhabited (Oper)
abbrev Oc.o (self : Oc) : Oper := self.default
/-- Which calls of a region may write. -/
def loOf (dr : Bool) (ops : Array Oper) : Nat → Bool := match dr with | true => loudAt ops.toList | false => fun _ => true
def VLt (_ : Bool) (dr : Bool) (P : Program) [A : Ar] (base i : Nat) [l : Ls] (E : Env) (S : St) (Q : Env → St → Prop) : Prop := VL (loOf dr A.a) P A.a base i l.l E S Q
def VCt (_ : Bool) (P : Program) [c : Cd] (E : Env) (S : St) (Q : Exit → Env → St → Prop) : Prop := VC P c.c E S Q
def LoopT (P : Program) [c : Cd] (E : Env) (S : St) (Q : Exit → Env → St → Prop) : Prop := CS P (.loop c.c) E S Q
def DrawT (P : Program) [A : Ar] (E : Env) : Prop := ∃ sp, drawOk P A.a sp = true ∧ SepT sp E
theorem DrawT.mk {P : Program} {A : Ar} {E : Env} (h : drawOk P A.a [] = true) : @DrawT P A E := ⟨[], h, trivial⟩
/-- The pairs that are told apart by their pointers. -/
theorem DrawT.sp {P : Program} {A : Ar} {E : Env} (sp : Spl) (h : drawOk P A.a sp = true) (k : SepT sp E) : @DrawT P A E := ⟨sp, h, k⟩
@[simp] theorem SepT_nil {E : Env} : SepT [] E = True := rfl
@[simp] theorem SepT_cons {E : Env} (x y : Nat × Nat) (l : Spl) : SepT ((x, y) :: l) E = (apart (refOf (E x.2)) (refOf (E y.2)) ∧ SepT l E) := rfl
@[simp] theorem refOf_some (b off : Nat) : refOf (some (.op b off)) = some b := rfl
@[simp] theorem apart_some (b c : Nat) : apart (some b) (some c) = (b ≠ c) := rfl
/-- A call that may write, at its place in the region. -/
def LoudT (dr : Bool) [A : Ar] (i : Nat) : Bool := loOf dr A.a i
def BrT (b : Bool) (x y : Bool → Prop) : Prop := Br b (x true) (y true)
@[simp] theorem BrT_true (x y : Bool → Prop) : BrT true x y = x true := by simp [BrT, Br]
@[simp] theorem BrT_false (x y : Bool → Prop) : BrT false x y = y true := by simp [BrT, Br]
@[simp] theorem BrT_not (b : Bool) (x y : Bool → Prop) : BrT (!b) x y = BrT b y x := by cases b <;> simp
theorem BrT.mk {b : Bool} {x y : Bool → Prop} (h : b = true → x true) (k : b = false → y true) : BrT b x y := ⟨h, k⟩
theorem BrT.dec {p : Prop} [Decidable p] {x y : Bool → Prop} (h : p → x true) (k : ¬ p → y true) : BrT (decide p) x y := ⟨fun e => h (of_decide_eq_true e), fun e => k (of_decide_eq_false e)⟩
theorem BrT.yes {p : Prop} [Decidable p] {x y : Bool → Prop} (hp : p) (h : x true) : BrT (decide p) x y := .dec (fun _ => h) (fun n => absurd hp n)
theorem BrT.no {p : Prop} [Decidable p] {x y : Bool → Prop} (hp : ¬ p) (h : y true) : BrT (decide p) x y := .dec (fun n => absurd n hp) (fun _ => h)
def CallT (lo : Bool) (P : Program) (g : FuncId) (ss : List SV) (S : St) (K : Bool → SV → St → Prop) : Prop := Callv lo P g ss S (K true)
theorem CallT.p {lo : Bool} {g : FuncId} {ss : List SV} {K : Bool → SV → St → Prop} {ds : List D} {r : D} {gl : Nat → Option D} (h : PCall P gl g ds r) (hg : S.gl = gl) (hd : toDs ss = some ds) (k : K true (.d r) S) : CallT lo P g ss S K := .inl ⟨ds, r, hd, by rw [hg]; exact h, k⟩
theorem CallT.l {lo : Bool} {g : FuncId} {ss : List SV} {K : Bool → SV → St → Prop} {r : SV} {S' : St} (h : LCall P g ss S r S') (hl : lo = true) (k : K true r S') : CallT lo P g ss S K := .inr ⟨hl, r, S', h, k⟩
theorem PCall.any {g : FuncId} {ds : List D} {r : D} {gl : Nat → Option D} (h : PCall P (fun _ => none) g ds r) : PCall P gl g ds r :=
  ⟨h.1, fun m w vals hm _ hl hv => h.2 m w vals hm (fun _ _ e => by cases e) hl hv⟩
theorem CallT.p0 {lo : Bool} {g : FuncId} {ss : List SV} {K : Bool → SV → St → Prop} {ds : List D} {r : D} (h : PCall P (fun _ => none) g ds r) (hd : toDs ss = some ds) (k : K true (.d r) S) : CallT lo P g ss S K := .inl ⟨ds, r, hd, h.any, k⟩
def InvT (P : Program) (t : TypeId) (y : D) (name : String) (ss : List SV) (S : St) (K : Bool → SV → Prop) : Prop := Invk P t y name ss S (K true)
theorem InvT.p {t : TypeId} {y : D} {name : String} {ss : List SV} {K : Bool → SV → Prop} {g : FuncId} {ds : List D} {r : D} {gl : Nat → Option D} (h : PCall P gl g (y :: ds) r) (hg : S.gl = gl) (hm : methOf P t name = some g) (hd : toDs ss = some ds) (k : K true (.d r)) : InvT P t y name ss S K := ⟨g, ds, r, hm, hd, by rw [hg]; exact h, k⟩
def OpT (r : Option (SV × Eff)) (K : Bool → SV → Eff → Prop) : Prop := Op1 r (K true)
@[simp] theorem OpT_some (s : SV) (e : Eff) (K : Bool → SV → Eff → Prop) : OpT (some (s, e)) K = K true s e := (rfl)
@[simp] theorem OpT_only (c : Prop) [Decidable c] (s : SV) (e : Eff) (K : Bool → SV → Eff → Prop) : OpT (onlyIf c (s, e)) K = (c ∧ K true s e) := by
  unfold onlyIf
  by_cases h : c <;> simp [h, OpT, Op1]
def ArgT (r : Option (List SV)) (K : Bool → List SV → Prop) : Prop := ArgK r (K true)
@[simp] theorem ArgT_some (ds : List SV) (K : Bool → List SV → Prop) : ArgT (some ds) K = K true ds := (rfl)
def RecT (r : Option SV) (K : Bool → TypeId → D → Prop) : Prop := RecK r (K true)
@[simp] theorem RecT_some (t : TypeId) (y : D) (K : Bool → TypeId → D → Prop) : RecT (some (.d (.ifc t y))) K = K true t y := (rfl)
def WantT (r : Option Bool) (x y : Bool → Prop) : Prop := Want r (x true) (y true)
@[simp] theorem WantT_some (b : Bool) (x y : Bool → Prop) : WantT (some b) x y = BrT b x y := (rfl)
def CndT (r : Option SV) (x y : Bool → Prop) : Prop := Cnd r (x true) (y true)
@[simp] theorem CndT_some (b : Bool) (x y : Bool → Prop) : CndT (some (.d (.v (.bool b)))) x y = BrT b x y := (rfl)
def ThenT (N : Bool → Env → St → Prop) (Q : Exit → Env → St → Prop) : Exit → Env → St → Prop := Then (N true) Q
@[simp] theorem ThenT_normal (N : Bool → Env → St → Prop) (Q : Exit → Env → St → Prop) : ThenT N Q .normal E S = N true E S := (rfl)
@[simp] theorem ThenT_exit (N : Bool → Env → St → Prop) (Q : Exit → Env → St → Prop) (i : Nat) : ThenT N Q (.exit i) E S = Q (.exit i) E S := (rfl)
@[simp] theorem ThenT_ret (N : Bool → Env → St → Prop) (Q : Exit → Env → St → Prop) : ThenT N Q .ret E S = Q .ret E S := (rfl)
@[simp] theorem Then_normal (N : Env → St → Prop) (Q : Exit → Env → St → Prop) : Then N Q .normal E S = N E S := (rfl)
@[simp] theorem Then_exit (N : Env → St → Prop) (Q : Exit → Env → St → Prop) (i : Nat) : Then N Q (.exit i) E S = Q (.exit i) E S := (rfl)
@[simp] theorem Then_ret (N : Env → St → Prop) (Q : Exit → Env → St → Prop) : Then N Q .ret E S = Q .ret E S := (rfl)
def RegT (Q : Exit → Env → St → Prop) : Env → St → Prop := fun E S => Q .normal E S
@[simp] theorem RegT_app (Q : Exit → Env → St → Prop) : RegT Q E S = Q .normal E S := (rfl)
@[simp] theorem InBlock_normal (id : Nat) (Q : Exit → Env → St → Prop) : InBlock id Q .normal E S = Q .normal E S := (rfl)
@[simp] theorem InBlock_ret (id : Nat) (Q : Exit → Env → St → Prop) : InBlock id Q .ret E S = Q .ret E S := (rfl)
@[simp] theorem InBlock_exit (id : Nat) (Q : Exit → Env → St → Prop) (i : Nat) : InBlock id Q (.exit i) E S = if i = id then Q .normal E S else Q (.exit i) E S := (rfl)

def StepT (_ : Bool) (dr : Bool) (P : Program) [A : Ar] (base i : Nat) [o : Oc] [l : Ls] (E : Env) (S : St) (Q : Env → St → Prop) : Option CallK → Prop
  | some (.fn g xs) => ArgT (argsS E xs) (fun t ss => CallT (@LoudT dr A i) P g ss S (fun t r S' => @VLt t dr P A base (i + 1) l (E.put o.o.dst r) S' Q))
  | some (.inv x name xs) => RecT (evalO E x) (fun t ty y => ArgT (argsS E xs) (fun t ss => InvT P ty y name ss S (fun t r => @VLt t dr P A base (i + 1) l (E.put o.o.dst r) S Q)))
  | none => OpT (evalOp P E S (base + i) o.o) (fun t s e => @VLt t dr P A base (i + 1) l (E.put o.o.dst s) (S.app (base + i) e) Q)
/-- One operation, seen. -/
def SeeT (t : Bool) (dr : Bool) (P : Program) [A : Ar] (base i : Nat) [o : Oc] [l : Ls] (E : Env) (S : St) (Q : Env → St → Prop) : Prop := @StepT t dr P A base i o l E S Q (callOf o.o.op)

@[simp] theorem LoudT_text [A : Ar] (i : Nat) : LoudT false i = true := (rfl)
@[simp] theorem VLt_nil {dr : Bool} {A : Ar} {base i : Nat} {Q : Env → St → Prop} : @VLt true dr P A base i ⟨[]⟩ E S Q = Q E S := (rfl)
@[simp] theorem VLt_cons {dr : Bool} {A : Ar} {base i : Nat} {d : Option Nat} {op : Op} {ty : TypeId} {p : String} {af : Array Edge} {l : List Oper} {Q : Env → St → Prop} : @VLt true dr P A base i ⟨⟨d, op, ty, p, af, none⟩ :: l⟩ E S Q =
    (dstOk d S.n = true ∧ @SeeT true dr P A base i ⟨⟨d, op, ty, p, af, none⟩⟩ ⟨l⟩ E S Q) := by
  show VL (loOf dr A.a) P A.a base i (⟨d, op, ty, p, af, none⟩ :: l) E S Q = _
  rw [VL]
  have : wantS A.a E ⟨d, op, ty, p, af, none⟩ = some true := rfl
  rw [this]
  simp only [Want, Br, true_imp_iff, reduceCtorEq, false_imp_iff, and_true]
  unfold SeeT StepT
  cases callOf op with
  | none => rfl
  | some k => cases k <;> rfl
def wantG (want : Bool) : Option SV → Option Bool
  | some (.d (.v (.bool b))) => some (b == want)
  | some (.d (.v (.tuple _))) => some false
  | _ => none
@[simp] theorem wantG_bool (want b : Bool) : wantG want (some (.d (.v (.bool b)))) = some (b == want) := (rfl)
@[simp] theorem wantG_undef (want : Bool) : wantG want (some (.d (.v undef))) = some false := (rfl)
@[simp] theorem wantG_tuple (want : Bool) (vs : Array Value) : wantG want (some (.d (.v (.tuple vs)))) = some false := (rfl)
/-- The slot of a guard. -/
def GrdT [A : Ar] (j : Nat) : Option Nat := (A.a[j]?).bind (·.dst)
@[simp] theorem GrdT_mk (l : List Oper) (j : Nat) : @GrdT ⟨⟨l⟩⟩ j = (l[j]?).bind (·.dst) := by
  show ((⟨l⟩ : Array Oper)[j]?).bind (·.dst) = _
  rw [List.getElem?_toArray]
def wantD (E : Env) (want : Bool) : Option Nat → Option Bool
  | some d => wantG want (evalO E (.tmp d))
  | none => none
@[simp] theorem wantD_some (E : Env) (want : Bool) (d : Nat) : wantD E want (some d) = wantG want (evalO E (.tmp d)) := (rfl)
@[simp] theorem VLt_consG {dr : Bool} {A : Ar} {base i : Nat} {d : Option Nat} {op : Op} {ty : TypeId} {p : String} {af : Array Edge} {l : List Oper} {Q : Env → St → Prop} {j : Nat} {want : Bool} : @VLt true dr P A base i ⟨⟨d, op, ty, p, af, some (j, want)⟩ :: l⟩ E S Q =
    (dstOk d S.n = true ∧ WantT (wantD E want (@GrdT A j)) (fun t => @SeeT t dr P A base i ⟨⟨d, op, ty, p, af, some (j, want)⟩⟩ ⟨l⟩ E S Q) (fun t => @VLt t dr P A base (i + 1) ⟨l⟩ (E.put d (.d (.v undef))) S Q)) := by
  show VL (loOf dr A.a) P A.a base i (⟨d, op, ty, p, af, some (j, want)⟩ :: l) E S Q = _
  rw [VL]
  have : wantS A.a E ⟨d, op, ty, p, af, some (j, want)⟩ = wantD E want (@GrdT A j) := by
    unfold wantS wantD wantG GrdT
    rfl
  rw [this]
  unfold WantT SeeT StepT
  cases callOf op with
  | none => rfl
  | some k => cases k <;> rfl
@[simp] theorem SeeT_fn {dr : Bool} {A : Ar} {base i : Nat} {d : Option Nat} {ty : TypeId} {p : String} {af : Array Edge} {gd : Option (Nat × Bool)} {l : List Oper} {Q : Env → St → Prop} {g : FuncId} {xs : Array Operand} {ts : Array TypeId} : @SeeT true dr P A base i ⟨⟨d, .call { callee := .value (.func g), args := xs, argTypes := ts }, ty, p, af, gd⟩⟩ ⟨l⟩ E S Q =
    ArgT (argsS E xs.toList) (fun t ss => CallT (@LoudT dr A i) P g ss S (fun t r S' => @VLt t dr P A base (i + 1) ⟨l⟩ (E.put d r) S' Q)) := rfl
@[simp] theorem SeeT_inv {dr : Bool} {A : Ar} {base i : Nat} {d : Option Nat} {ty : TypeId} {p : String} {af : Array Edge} {gd : Option (Nat × Bool)} {l : List Oper} {Q : Env → St → Prop} {x : Operand} {name : String} {xs : Array Operand} {ts : Array TypeId} : @SeeT true dr P A base i ⟨⟨d, .call { callee := .invoke x name, args := xs, argTypes := ts }, ty, p, af, gd⟩⟩ ⟨l⟩ E S Q =
    RecT (evalO E x) (fun t ty y => ArgT (argsS E xs.toList) (fun t ss => InvT P ty y name ss S (fun t r => @VLt t dr P A base (i + 1) ⟨l⟩ (E.put d r) S Q))) := rfl
/-- An operation that is no call. -/
def isOp : Op → Bool
  | .call { callee := .builtin _, .. } => true
  | .call _ => false
  | _ => true
theorem isOp_callOf {op : Op} (h : isOp op = true) : callOf op = none := by
  unfold callOf
  split
  · cases h
  · cases h
  · rfl
theorem SeeT_op_ {dr : Bool} {A : Ar} {base i : Nat} {o : Oper} {l : List Oper} {Q : Env → St → Prop} (h : isOp o.op = true) : @SeeT true dr P A base i ⟨o⟩ ⟨l⟩ E S Q =
    OpT (evalOp P E S (base + i) o) (fun t s e => @VLt t dr P A base (i + 1) ⟨l⟩ (E.put o.dst s) (S.app (base + i) e) Q) := by
  unfold SeeT
  rw [show callOf (Oc.o (self := ⟨o⟩)).op = none from isOp_callOf h]
  rfl
@[simp] theorem VCt_skip {Q : Exit → Env → St → Prop} : @VCt true P ⟨.skip⟩ E S Q = Q .normal E S := (rfl)
@[simp] theorem VCt_label {l : Nat} {Q : Exit → Env → St → Prop} : @VCt true P ⟨.label l⟩ E S Q = Q .normal E S := (rfl)
@[simp] theorem VCt_exit {id : Nat} {Q : Exit → Env → St → Prop} : @VCt true P ⟨.exit id⟩ E S Q = Q (.exit id) E S := (rfl)
@[simp] theorem VCt_ret {Q : Exit → Env → St → Prop} : @VCt true P ⟨.ret⟩ E S Q = Q .ret E S := (rfl)
@[simp] theorem VCt_seq {x y : Code} {Q : Exit → Env → St → Prop} : @VCt true P ⟨.seq x y⟩ E S Q = @VCt true P ⟨x⟩ E S (ThenT (fun t E' S' => @VCt t P ⟨y⟩ E' S' Q) Q) := (rfl)
@[simp] theorem VCt_block {id : Nat} {c : Code} {Q : Exit → Env → St → Prop} : @VCt true P ⟨.block id c⟩ E S Q = @VCt true P ⟨c⟩ E S (InBlock id Q) := (rfl)
@[simp] theorem VCt_cond {c : Operand} {x y : Code} {Q : Exit → Env → St → Prop} : @VCt true P ⟨.cond c x y⟩ E S Q = CndT (evalO E c) (fun t => @VCt t P ⟨x⟩ E S Q) (fun t => @VCt t P ⟨y⟩ E S Q) := (rfl)
@[simp] theorem VCt_region {id : Nat} {l : List Oper} {Q : Exit → Env → St → Prop} : @VCt true P ⟨.region id ⟨l⟩ false⟩ E S Q = @VLt true false P ⟨⟨l⟩⟩ S.nx 0 ⟨l⟩ E (S.adv l.length) (RegT Q) := (rfl)
@[simp] theorem VCt_draw {id : Nat} {l : List Oper} {Q : Exit → Env → St → Prop} : @VCt true P ⟨.region id ⟨l⟩ true⟩ E S Q = (@DrawT P ⟨⟨l⟩⟩ E ∧ @VLt true true P ⟨⟨l⟩⟩ S.nx 0 ⟨l⟩ E (S.adv l.length) (RegT Q)) := (rfl)
@[simp] theorem VCt_loop {c : Code} {Q : Exit → Env → St → Prop} : @VCt true P ⟨.loop c⟩ E S Q = @LoopT P ⟨c⟩ E S Q := (rfl)

theorem CS.of {c : Code} {Q : Exit → Env → St → Prop} (h : @VCt true P ⟨c⟩ E S Q) : CS P c E S Q := VC.sound h

/-- A loop, with what is left to show of a round. -/
theorem LoopT.round {c : Code} {Q : Exit → Env → St → Prop} (I : Env → St → Prop) (μ : Env → St → Nat) (h0 : I E S)
    (round : ∀ E1 S1, Keeps S S1 → I E1 S1 → @VCt true P ⟨c⟩ E1 S1 (ThenT (fun _ E' S' => I E' S' ∧ μ E' S' < μ E1 S1) Q)) : @LoopT P ⟨c⟩ E S Q :=
  CS.loop I μ h0 (fun E1 S1 hk hI => CS.of (round E1 S1 hk hI))

/-- A loop of n rounds at most, round by round. -/
def RoundsV (P : Program) (c : Code) : Nat → Env → St → (Exit → Env → St → Prop) → Prop
  | 0, _, _, _ => False
  | n + 1, E, S, Q => VC P c E S (Then (fun E' S' => RoundsV P c n E' S' Q) Q)
theorem CS.rounds {c : Code} {Q : Exit → Env → St → Prop} : ∀ {n : Nat} {E : Env} {S : St}, RoundsV P c n E S Q → CS P (.loop c) E S Q := by
  intro n E S h m0 w0 G a w H hH hr QQ hQ
  refine wp_loop_rounds n ?_
  induction n generalizing E S G a w with
  | zero => exact h.elim
  | succ n ih =>
    rw [rounds_succ]
    refine VC.sound h m0 w0 G a w H hH hr _ (fun ex G' E' S' a' w' q hn hr' f => ?_)
    cases ex with
    | normal => exact ih q G' a' w' (fun b hb => Nat.lt_of_lt_of_le (hH b hb) hn.nx) hr' (fun ex G'' E'' S'' a'' w'' q' hn' hr'' f' => hQ ex G'' E'' S'' a'' w'' q' (hn.trans hn') hr'' (f.trans f'))
    | _ => exact hQ _ G' E' S' a' w' q hn hr' f
def RndT (P : Program) (n : Nat) [c : Cd] (E : Env) (S : St) (Q : Exit → Env → St → Prop) : Prop := RoundsV P c.c n E S Q
theorem RndT_succ {n : Nat} {c : Code} {Q : Exit → Env → St → Prop} : @RndT P (n + 1) ⟨c⟩ E S Q = @VCt true P ⟨c⟩ E S (ThenT (fun _ E' S' => @RndT P n ⟨c⟩ E' S' Q) Q) := (rfl)
/-- A loop whose rounds are counted out. -/
theorem LoopT.rounds {c : Code} {Q : Exit → Env → St → Prop} (n : Nat) (h : @RndT P n ⟨c⟩ E S Q) : @LoopT P ⟨c⟩ E S Q := CS.rounds h

/-- What a function's end asks. -/
def Fin (P : Program) (rs : List ResultVar) (r : D) : Exit → Env → St → Prop := fun ex E S => (ex = .normal ∨ ex = .ret) ∧ ∃ s, resS P E S rs = some s ∧ frz S.B 16 s = some r
@[simp] theorem Fin_ret {rs : List ResultVar} {r : D} : Fin P rs r .ret E S = ((resS P E S rs).bind (frz S.B 16) = some r) := by
  simp only [Fin, reduceCtorEq, or_true, true_and, Option.bind_eq_some_iff]
@[simp] theorem Fin_normal {rs : List ResultVar} {r : D} : Fin P rs r .normal E S = ((resS P E S rs).bind (frz S.B 16) = some r) := by
  simp only [Fin, or_false, reduceCtorEq, true_and, Option.bind_eq_some_iff]
theorem PCall.by_ {gl : Nat → Option D} {md : List Nat} {f : FuncId} {fn : Func} {c : Code} {args : List D} {r : D} (hf : P.funcs[f]? = some fn) (hb : fn.body = some c) (hname : (fn.name == "runtime.NumGoroutine") = false) {n : Nat} (hn : fn.ntmps = n) (hle : args.length ≤ n) (hfew : n ≤ globalsAt) {rs : List ResultVar} (hrs : fn.results.toList = rs)
    (h : @VCt true P ⟨c⟩ (startE gl (args.map .d)) (startS gl md n) (Fin P rs r)) : PCall P gl f args r := PCall.of (md := md) hf hb hname hn hle hfew (by rw [hrs]; exact VC.sound h)

/-- What the end of a function that writes asks. -/
def FinL (P : Program) (rs : List ResultVar) (r : SV) (S' : St) : Exit → Env → St → Prop := fun ex E S => (ex = .normal ∨ ex = .ret) ∧ resS P E S rs = some r ∧ Less S' S
@[simp] theorem FinL_ret {rs : List ResultVar} {r : SV} : FinL P rs r S' .ret E S = (resS P E S rs = some r ∧ Less S' S) := by
  simp only [FinL, reduceCtorEq, or_true, true_and]
@[simp] theorem FinL_normal {rs : List ResultVar} {r : SV} : FinL P rs r S' .normal E S = (resS P E S rs = some r ∧ Less S' S) := by
  simp only [FinL, or_false, reduceCtorEq, true_and]
theorem LCall.by_ {md : List Nat} {f : FuncId} {fn : Func} {c : Code} {ss : List SV} {r : SV} (hk : Keeps S S') (hf : P.funcs[f]? = some fn) (hb : fn.body = some c) (hname : (fn.name == "runtime.NumGoroutine") = false) {n : Nat} (hn : fn.ntmps = n) (hle : ss.length ≤ n) (hfew : n ≤ globalsAt) {rs : List ResultVar} (hrs : fn.results.toList = rs)
    (h : @VCt true P ⟨c⟩ (startE S.gl ss) { S with n := n, md := md } (FinL P rs r S')) : LCall P f ss S r S' := LCall.of (md := md) hf hb hname hn hle hfew hk (by rw [hrs]; exact VC.sound h)

/-! ### a call whose own variables are forgotten -/
mutual
/-- All variables and tips that it names are below n. -/
def SV.lt (n : Nat) : SV → Bool
  | .d _ => true
  | .fl _ _ => true
  | .tp i _ _ _ => decide (i < n)
  | .op b _ => decide (b < n)
  | .os b _ _ => decide (b < n)
  | .ag cs => ltS n cs
  | .tu cs => ltS n cs
  | .fc _ x => SV.lt n x
  | .fn _ xs ys => ltS n xs && ltS n ys
def ltS (n : Nat) : List SV → Bool
  | [] => true
  | s :: r => SV.lt n s && ltS n r
end
theorem ltS_get {n : Nat} : ∀ {cs : List SV}, ltS n cs = true ↔ ∀ j (h : j < cs.length), SV.lt n cs[j] = true
  | [] => by simp [ltS]
  | s :: r => by
    simp only [ltS, Bool.and_eq_true, ltS_get (cs := r)]
    constructor
    · rintro ⟨h1, h2⟩ j hj
      cases j with
      | zero => exact h1
      | succ j => exact h2 j (by simpa using hj)
    · intro h
      exact ⟨h 0 (by simp), fun j hj => h (j + 1) (by simpa using hj)⟩
/-- What is known below n. -/
def Gh.cutAt (G : Gh) (n : Nat) : Gh := { G with box := fun b => if b < n then G.box b else none, tip := fun i => if i < n then G.tip i else none }
theorem VR.lt {G : Gh} {w : World} {n : Nat} (hb : ∀ b, n ≤ b → G.box b = none) (ht : ∀ b, n ≤ b → G.tip b = none) {s : SV} {u : Value} (h : VR G w s u) : SV.lt n s = true := by
  induction h with
  | d h => rfl
  | fl h hc => rfl
  | tp h ht' hn he =>
    rename_i i q cs n' B o c B' v k cap
    rcases Nat.lt_or_ge i n with h1 | h1
    · simp [SV.lt, h1]
    · rw [ht i h1] at ht'; cases ht'
  | op h =>
    rename_i b off B
    rcases Nat.lt_or_ge b n with h1 | h1
    · simp [SV.lt, h1]
    · rw [hb b h1] at h; cases h
  | os h hn =>
    rename_i b off n' c B
    rcases Nat.lt_or_ge b n with h1 | h1
    · simp [SV.lt, h1]
    · rw [hb b h1] at h; cases h
  | ag hl hk hv ih => simp only [SV.lt]; exact ltS_get.2 fun j hj => ih j hj (by omega)
  | tu hl hv ih => simp only [SV.lt]; exact ltS_get.2 fun j hj => ih j hj (by omega)
  | fc h ih => exact ih
  | fn hl hm hv hu ih1 ih2 =>
    simp only [SV.lt, Bool.and_eq_true]
    exact ⟨ltS_get.2 fun j hj => ih1 j hj (by omega), ltS_get.2 fun j hj => ih2 j hj (by omega)⟩
theorem VR.cutAt {G : Gh} {w : World} {n : Nat} {s : SV} {u : Value} (h : VR G w s u) : SV.lt n s = true → VR (G.cutAt n) w s u := by
  induction h with
  | d h => exact fun _ => .d h
  | fl h hc => exact fun _ => .fl h hc
  | tp h ht hn he =>
    intro hl
    simp only [SV.lt, decide_eq_true_eq] at hl
    exact .tp h (by simp only [Gh.cutAt, if_pos hl]; exact ht) hn he
  | op h =>
    intro hl
    simp only [SV.lt, decide_eq_true_eq] at hl
    exact .op (by simp only [Gh.cutAt, if_pos hl]; exact h)
  | os h hn =>
    intro hl
    simp only [SV.lt, decide_eq_true_eq] at hl
    exact .os (by simp only [Gh.cutAt, if_pos hl]; exact h) hn
  | ag hl hk hv ih => exact fun h => .ag hl hk fun j hj hj' => ih j hj hj' (ltS_get.1 (by simpa only [SV.lt] using h) j hj)
  | tu hl hv ih => exact fun h => .tu hl fun j hj hj' => ih j hj hj' (ltS_get.1 (by simpa only [SV.lt] using h) j hj)
  | fc h ih => exact fun h => .fc (ih h)
  | fn hl hm hv hu ih1 ih2 =>
    intro h
    simp only [SV.lt, Bool.and_eq_true] at h
    exact .fn hl hm (fun j hj hj' => ih1 j hj hj' (ltS_get.1 h.1 j hj)) (fun j hj hj' => ih2 j hj hj' (ltS_get.1 h.2 j hj))

/-- What a call leaves: B' and T' tell of variables below a number alone; what has turned names such alone. -/
structure Elder (S S' S1 : St) : Prop where
  n : S'.n = S.n
  md : S'.md = S.md
  gl : S'.gl = S.gl
  nx : S.nx ≤ S'.nx
  B : ∀ b cs, S'.B b = some cs → b < S'.nx ∧ (∃ l, S1.B b = some (cs ++ l)) ∧ (ltS S'.nx cs = true ∨ S.B b = some cs)
  T : ∀ i p, S'.T i = some p → i < S'.nx ∧ S1.T i = some p

/-- A function that works on the variables of its caller, and leaves none. -/
theorem LCall.elder {f : FuncId} {fn : Func} {c : Code} {ss : List SV} {r : SV} {md : List Nat} (hf : P.funcs[f]? = some fn) (hb : fn.body = some c) (hname : (fn.name == "runtime.NumGoroutine") = false) {n : Nat} (hn : fn.ntmps = n) (hle : ss.length ≤ n) (hfew : n ≤ globalsAt)
    (hk : Keeps S S') (hr0 : SV.lt S'.nx r = true)
    (h : CS P c (startE S.gl ss) { S with n := n, md := md } (fun ex E1 S1 => (ex = .normal ∨ ex = .ret) ∧ resS P E1 S1 fn.results.toList = some r ∧ Elder S S' S1)) : LCall P f ss S r S' := by
  refine ⟨⟨fn, hf, hname, by rw [hb]; rfl⟩, hk, fun m0 w0 G E F a w vals hr hF hl hv => calls_of_wp hf hb ?_⟩
  have hsz : (vals.toArray ++ Array.replicate (fn.ntmps - vals.toArray.size) undef).size = n := by simp; omega
  have hstart := start_slots (gl := S.gl) (G := G) (w := w) (ss := ss) (vals := vals) (n := n) (ntmps := n) hl hle hv hr.glob (Array.replicate (fn.ntmps - vals.toArray.size) undef)
  refine h m0 w0 G { tmps := vals.toArray ++ Array.replicate (fn.ntmps - vals.toArray.size) undef, defers := [] } w (fun b => F b ∧ b < S.nx) (fun _ hb => hb.2)
    ⟨hstart, hsz, hfew, hr.box, hr.inj, hr.tip, hr.tinj, hr.tlt, hr.tbox, fun b hb => hr.fresh b (hb.elim (hF b) (fun h => h.1)), hr.new, hr.low, hr.below, rfl, hr.glob⟩ _ ?_
  rintro ex G' E' S1 a' w' ⟨hex, hs, he⟩ hn' hr' f
  obtain ⟨u, hu, hv'⟩ := resS_ok hr' hs
  have hnx : S.nx ≤ S1.nx := hn'.nx
  have hle' : S.nx ≤ S'.nx := hk.nx
  have hbox : ∀ b, S'.nx ≤ b → G.box b = none := fun b hb => (hr.fresh b (hF b (Nat.le_trans hle' hb))).1
  have htip : ∀ b, S'.nx ≤ b → G.tip b = none := fun b hb => (hr.fresh b (hF b (Nat.le_trans hle' hb))).2
  have fc : Fut G w (G'.cutAt S'.nx) w' := by
    refine ⟨fun b B hb => ?_, fun i B v k cap hi => ?_, f.mark, f.cell⟩
    · have hlt : b < S'.nx := by
        rcases Nat.lt_or_ge b S'.nx with h1 | h1
        · exact h1
        · rw [hbox b h1] at hb; cases hb
      simp only [Gh.cutAt, if_pos hlt]; exact f.box b B hb
    · have hlt : i < S'.nx := by
        rcases Nat.lt_or_ge i S'.nx with h1 | h1
        · exact h1
        · rw [htip i h1] at hi; cases hi
      simp only [Gh.cutAt, if_pos hlt]; exact f.tip i B v k cap hi
  have cutT : ∀ {i p}, (G'.cutAt S'.nx).tip i = some p → G'.tip i = some p := fun {i p} h => by
    simp only [Gh.cutAt] at h; split at h
    · exact h
    · cases h
  have cutB : ∀ {b p}, (G'.cutAt S'.nx).box b = some p → G'.box b = some p := fun {b p} h => by
    simp only [Gh.cutAt] at h; split at h
    · exact h
    · cases h
  have ne : ∀ b, S'.B b ≠ none → S1.B b ≠ none := fun b hb e => by
    obtain ⟨cs, hcs⟩ := Option.ne_none_iff_exists'.1 hb
    obtain ⟨l, hl⟩ := (he.B b cs hcs).2.1
    rw [hl] at e; cases e
  have fin : a'.defers = [] ∧ ∃ v, (results fn a'.tmps).run P w' = .ok v w' ∧ (∃ u G'', Ending.returned v = Ending.returned u ∧ VR G'' w' r u ∧ Rel m0 w0 G'' E S' (fun b => F b ∧ ¬ (S.nx ≤ b ∧ b < S'.nx)) a w' ∧ Fut G w G'' w') := by
    refine ⟨hr'.defers, u, hu, u, G'.cutAt S'.nx, rfl, hv'.cutAt hr0, ⟨fun j s hj => (hr.env j s hj).fut fc, by rw [hk.n]; exact hr.size, by rw [hk.n]; exact hr.few, fun b cs hb => ?_, fun b b' B hb hb' g g' => hr'.inj b b' B (ne b hb) (ne b' hb') (cutB g) (cutB g'),
      fun i k sz hi => ?_, fun i i' B v k c v' k' c' g g' => hr'.tinj i i' B v k c v' k' c' (cutT g) (cutT g'), fun i B v k c g => hr'.tlt i B v k c (cutT g), fun i b B v k c hi hb g => hr'.tbox i b B v k c (cutT hi) (ne b hb) (cutB g), fun b hb => ?_, hr'.new, hr'.low, hr'.below, hr.defers, by rw [hk.gl]; exact fun g x hg => hr'.glob g x (by rw [hn'.gl]; exact hg)⟩, fc⟩
    · obtain ⟨hlt, ⟨l, h1⟩, h2⟩ := he.B b cs hb
      obtain ⟨B, us, T, g1, g2, g3, g4, g5, gu0, g6⟩ := hr'.box b _ h1
      have g6 : ∀ j (h : j < cs.length) (h' : j < us.size), (cs[j]).cell = true ∧ VR G' w' cs[j] us[j] := fun j h h' => by
        have := g6 j (by simp; omega) h'
        rwa [List.getElem_append_left h] at this
      refine ⟨B, us, T, by simp only [Gh.cutAt, if_pos hlt]; exact g1, g2, by simp at g3; omega, g4, g5, gu0, fun j hj hj' => ⟨(g6 j hj hj').1, (g6 j hj hj').2.cutAt ?_⟩⟩
      rcases h2 with h2 | h2
      · exact ltS_get.1 h2 j hj
      · obtain ⟨B0, us0, T0, k1, k2, k3, k4, k5, ku0, k6⟩ := hr.box b cs h2
        exact (k6 j hj (by omega)).2.lt hbox htip
    · obtain ⟨hlt, h1⟩ := he.T i _ hi
      obtain ⟨B, v, us, T, cap, fr, g1, g2⟩ := hr'.tip i k sz h1
      exact ⟨B, v, us, T, cap, fr, by simp only [Gh.cutAt, if_pos hlt]; exact g1, g2⟩
    · rcases Nat.lt_or_ge b S.nx with h1 | h1
      · have h2 : b < S'.nx := by omega
        simp only [Gh.cutAt, if_pos h2]; exact hr'.fresh b (.inr ⟨hb.1, h1⟩)
      · have : ¬ b < S'.nx := by have := hb.2; omega
        simp only [Gh.cutAt, if_neg this, and_self]
  rcases hex with rfl | rfl
  · exact fin
  · exact fin
def FinE (P : Program) (rs : List ResultVar) (r : SV) (S S' : St) : Exit → Env → St → Prop := fun ex E S1 => (ex = .normal ∨ ex = .ret) ∧ resS P E S1 rs = some r ∧ Elder S S' S1
@[simp] theorem FinE_ret {rs : List ResultVar} {r : SV} {S0 : St} : FinE P rs r S0 S' .ret E S = (resS P E S rs = some r ∧ Elder S0 S' S) := by
  simp only [FinE, reduceCtorEq, or_true, true_and]
@[simp] theorem FinE_normal {rs : List ResultVar} {r : SV} {S0 : St} : FinE P rs r S0 S' .normal E S = (resS P E S rs = some r ∧ Elder S0 S' S) := by
  simp only [FinE, or_false, reduceCtorEq, true_and]
theorem LCall.byE {md : List Nat} {f : FuncId} {fn : Func} {c : Code} {ss : List SV} {r : SV} (hk : Keeps S S') (hr0 : SV.lt S'.nx r = true) (hf : P.funcs[f]? = some fn) (hb : fn.body = some c) (hname : (fn.name == "runtime.NumGoroutine") = false) {n : Nat} (hn : fn.ntmps = n) (hle : ss.length ≤ n) (hfew : n ≤ globalsAt) {rs : List ResultVar} (hrs : fn.results.toList = rs)
    (h : @VCt true P ⟨c⟩ (startE S.gl ss) { S with n := n, md := md } (FinE P rs r S S')) : LCall P f ss S r S' := LCall.elder (md := md) hf hb hname hn hle hfew hk hr0 (by rw [hrs]; exact VC.sound h)

/-! ### state and slots -/
@[simp] theorem upd_app {α : Type} (f : Nat → Option α) (k : Nat) (x : α) (i : Nat) : upd f k x i = if i = k then some x else f i := (rfl)
@[simp] theorem adv_n (k : Nat) : (S.adv k).n = S.n := (rfl)
@[simp] theorem adv_B (k : Nat) : (S.adv k).B = S.B := (rfl)
@[simp] theorem adv_T (k : Nat) : (S.adv k).T = S.T := (rfl)
@[simp] theorem adv_nx (k : Nat) : (S.adv k).nx = S.nx + k := (rfl)
@[simp] theorem adv_md (k : Nat) : (S.adv k).md = S.md := (rfl)
@[simp] theorem adv_gl (k : Nat) : (S.adv k).gl = S.gl := (rfl)
@[simp] theorem new_n (id : Nat) (cs : List SV) : (S.new id cs).n = S.n := (rfl)
@[simp] theorem new_B (id : Nat) (cs : List SV) : (S.new id cs).B = upd S.B id cs := (rfl)
@[simp] theorem new_T (id : Nat) (cs : List SV) : (S.new id cs).T = S.T := (rfl)
@[simp] theorem new_nx (id : Nat) (cs : List SV) : (S.new id cs).nx = S.nx := (rfl)
@[simp] theorem new_md (id : Nat) (cs : List SV) : (S.new id cs).md = S.md := (rfl)
@[simp] theorem new_gl (id : Nat) (cs : List SV) : (S.new id cs).gl = S.gl := (rfl)
@[simp] theorem set_n (id : Nat) (cs : List SV) : (S.set id cs).n = S.n := (rfl)
@[simp] theorem set_B (id : Nat) (cs : List SV) : (S.set id cs).B = upd S.B id cs := (rfl)
@[simp] theorem set_T (id : Nat) (cs : List SV) : (S.set id cs).T = S.T := (rfl)
@[simp] theorem set_nx (id : Nat) (cs : List SV) : (S.set id cs).nx = S.nx := (rfl)
@[simp] theorem set_md (id : Nat) (cs : List SV) : (S.set id cs).md = S.md := (rfl)
@[simp] theorem set_gl (id : Nat) (cs : List SV) : (S.set id cs).gl = S.gl := (rfl)
@[simp] theorem tipTo_n (i k sz : Nat) : (S.tipTo i k sz).n = S.n := (rfl)
@[simp] theorem tipTo_B (i k sz : Nat) : (S.tipTo i k sz).B = S.B := (rfl)
@[simp] theorem tipTo_T (i k sz : Nat) : (S.tipTo i k sz).T = upd S.T i (k, sz) := (rfl)
@[simp] theorem tipTo_nx (i k sz : Nat) : (S.tipTo i k sz).nx = S.nx := (rfl)
@[simp] theorem tipTo_md (i k sz : Nat) : (S.tipTo i k sz).md = S.md := (rfl)
@[simp] theorem tipTo_gl (i k sz : Nat) : (S.tipTo i k sz).gl = S.gl := (rfl)
@[simp] theorem app_no (id : Nat) : S.app id .no = S := (rfl)
@[simp] theorem app_new (id : Nat) (cs : List SV) : S.app id (.new cs) = S.new id cs := (rfl)
@[simp] theorem app_set (id b : Nat) (cs : List SV) : S.app id (.set b cs) = S.set b cs := (rfl)
@[simp] theorem app_tip (id i k sz : Nat) : S.app id (.tip i k sz) = S.tipTo i k sz := (rfl)
@[simp] theorem startS_n (gl : Nat → Option D) (md : List Nat) (n : Nat) : (startS gl md n).n = n := (rfl)
@[simp] theorem startS_B (gl : Nat → Option D) (md : List Nat) (n : Nat) : (startS gl md n).B = fun _ => none := (rfl)
@[simp] theorem startS_T (gl : Nat → Option D) (md : List Nat) (n : Nat) : (startS gl md n).T = fun _ => none := (rfl)
@[simp] theorem startS_nx (gl : Nat → Option D) (md : List Nat) (n : Nat) : (startS gl md n).nx = 0 := (rfl)
@[simp] theorem startS_md (gl : Nat → Option D) (md : List Nat) (n : Nat) : (startS gl md n).md = md := (rfl)
@[simp] theorem startS_gl (gl : Nat → Option D) (md : List Nat) (n : Nat) : (startS gl md n).gl = gl := (rfl)
@[simp] theorem put_some (E : Env) (k : Nat) (s : SV) : Env.put E (some k) s = upd E k s := (rfl)
@[simp] theorem put_none (E : Env) (s : SV) : Env.put E none s = E := (rfl)
@[simp] theorem startE_app (gl : Nat → Option D) (args : List SV) (k : Nat) : startE gl args k = if k < 1048576 then args[k]? else (gl (k - 1048576)).map .d := (rfl)
@[simp] theorem evalO_tmp (E : Env) (t : Nat) : evalO E (.tmp t) = if t < 1048576 then E t else none := (rfl)
@[simp] theorem evalO_const (E : Env) (c : Value) : evalO E (.const c) = ofConst c := (rfl)
@[simp] theorem evalO_func (E : Env) (f : FuncId) : evalO E (.func f) = some (.fn (.func f) [] []) := (rfl)
@[simp] theorem evalO_global (E : Env) (g : Nat) : evalO E (.global g) = E (1048576 + g) := (rfl)
@[simp] theorem ofConst_bool (b : Bool) : ofConst (.bool b) = some (.d (.v (.bool b))) := (rfl)
@[simp] theorem ofConst_int (k : IntKind) (n : Int) : ofConst (.int k n) = some (.d (.v (.int k n))) := (rfl)
@[simp] theorem ofConst_string (s : ByteArray) : ofConst (.string s) = some (.d (.v (.string s))) := (rfl)
@[simp] theorem ofConst_nilS : ofConst (.slice none 0 0) = some (.fl [] 0) := (rfl)
@[simp] theorem ofConst_nilI : ofConst .nilIface = some (.d (.v .nilIface)) := (rfl)
@[simp] theorem ofConst_nilP : ofConst (.pointer none) = some (.d (.v (.pointer none))) := (rfl)
@[simp] theorem ofConst_nilF : ofConst .nilFunc = some (.d (.v .nilFunc)) := (rfl)
@[simp] theorem ofConst_undef : ofConst (.tuple #[]) = some (.d (.v (.tuple #[]))) := (rfl)
@[simp] theorem dstOk_some (k n : Nat) : dstOk (some k) n = decide (k < n) := (rfl)
@[simp] theorem dstOk_none (n : Nat) : dstOk none n = true := (rfl)

/-! ### the operations, each by its name -/
section
variable {id : Nat} {d : Option Nat} {ty : TypeId} {p : String} {af : Array Edge} {g : Option (Nat × Bool)} {dr : Bool} {AA : Ar} {bb ii : Nat} {ll : List Oper} {QQ : Env → St → Prop}
@[simp] theorem SeeT_move (x : Operand) : @SeeT true dr P AA bb ii ⟨⟨d, .move x, ty, p, af, g⟩⟩ ⟨ll⟩ E S QQ = OpT ((evalO E x).map fun s => (s, .no)) (fun t s e => @VLt t dr P AA bb (ii + 1) ⟨ll⟩ (E.put d s) (S.app (bb + ii) e) QQ) := SeeT_op_ rfl
@[simp] theorem SeeT_assign (x : Operand) : @SeeT true dr P AA bb ii ⟨⟨d, .assign x, ty, p, af, g⟩⟩ ⟨ll⟩ E S QQ = OpT ((evalO E x).map fun s => (s, .no)) (fun t s e => @VLt t dr P AA bb (ii + 1) ⟨ll⟩ (E.put d s) (S.app (bb + ii) e) QQ) := SeeT_op_ rfl
def pick3 : Option SV → Option SV → Option SV → Option (SV × Eff)
  | some (.d (.v (.bool b))), some s, some t => some (if b = true then s else t, .no)
  | _, _, _ => none
@[simp] theorem pick3_some (b : Bool) (s t : SV) : pick3 (some (.d (.v (.bool b)))) (some s) (some t) = some (if b = true then s else t, .no) := (rfl)
@[simp] theorem SeeT_pick (c x y : Operand) : @SeeT true dr P AA bb ii ⟨⟨d, .pick c x y, ty, p, af, g⟩⟩ ⟨ll⟩ E S QQ = OpT (pick3 (evalO E c) (evalO E x) (evalO E y)) (fun t s e => @VLt t dr P AA bb (ii + 1) ⟨ll⟩ (E.put d s) (S.app (bb + ii) e) QQ) := SeeT_op_ rfl
@[simp] theorem SeeT_alloc (T : TypeId) : @SeeT true dr P AA bb ii ⟨⟨d, .alloc T, ty, p, af, g⟩⟩ ⟨ll⟩ E S QQ = OpT ((zeroCellsOf P T).map fun cs => (.op (bb + ii) 0, .new cs)) (fun t s e => @VLt t dr P AA bb (ii + 1) ⟨ll⟩ (E.put d s) (S.app (bb + ii) e) QQ) := SeeT_op_ rfl
def boxE (id : Nat) : Option SV → Option (SV × Eff)
  | some s => if s.one = true then some (.op id 0, .new s.cells) else none
  | none => none
@[simp] theorem boxE_some (s : SV) : boxE id (some s) = if s.one = true then some (.op id 0, .new s.cells) else none := (rfl)
@[simp] theorem SeeT_box (T : TypeId) (x : Operand) : @SeeT true dr P AA bb ii ⟨⟨d, .box T x, ty, p, af, g⟩⟩ ⟨ll⟩ E S QQ = OpT (boxE (bb + ii) (evalO E x)) (fun t s e => @VLt t dr P AA bb (ii + 1) ⟨ll⟩ (E.put d s) (S.app (bb + ii) e) QQ) := SeeT_op_ rfl
def buildE (P : Program) (T : TypeId) : Option (List SV) → Option (List (Nat × List SV)) → Bool → Option (SV × Eff)
  | some zs, some l, true => (fillL (placeOf P T) zs l).map fun cs => (.ag cs, .no)
  | _, _, _ => none
@[simp] theorem buildE_some (T : TypeId) (zs : List SV) (l : List (Nat × List SV)) : buildE P T (some zs) (some l) true = (fillL (placeOf P T) zs l).map fun cs => (.ag cs, .no) := (rfl)
@[simp] theorem SeeT_build (T : TypeId) (ps : Array (Nat × Operand)) : @SeeT true dr P AA bb ii ⟨⟨d, .build T ps, ty, p, af, g⟩⟩ ⟨ll⟩ E S QQ = OpT (buildE P T (zeroCellsOf P T) (partsS E ps.toList) (sized P T)) (fun t s e => @VLt t dr P AA bb (ii + 1) ⟨ll⟩ (E.put d s) (S.app (bb + ii) e) QQ) := SeeT_op_ rfl
def buildSliceE (n : Nat) : Option (List D × Nat) → Option (List (Nat × List D)) → Option (SV × Eff)
  | some (zs, sz), some l => if n * sz ≤ 16777216 then (fillL (fun i => some (i * sz, sz)) ((List.range (n * sz)).map fun j => zs.getD (j % sz) default) l).map fun cs => (.fl cs n, .no) else none
  | _, _ => none
@[simp] theorem buildSliceE_some (n : Nat) (zs : List D) (sz : Nat) (l : List (Nat × List D)) : buildSliceE n (some (zs, sz)) (some l) = if n * sz ≤ 16777216 then (fillL (fun i => some (i * sz, sz)) ((List.range (n * sz)).map fun j => zs.getD (j % sz) default) l).map fun cs => (.fl cs n, .no) else none := (rfl)
@[simp] theorem SeeT_buildSlice (T n : Nat) (ps : Array (Nat × Operand)) : @SeeT true dr P AA bb ii ⟨⟨d, .buildSlice T n ps, ty, p, af, g⟩⟩ ⟨ll⟩ E S QQ = OpT (buildSliceE n (zerosOf P T) (partsD E ps.toList)) (fun t s e => @VLt t dr P AA bb (ii + 1) ⟨ll⟩ (E.put d s) (S.app (bb + ii) e) QQ) := SeeT_op_ rfl
def loadE (P : Program) (T : TypeId) (B : Nat → Option (List SV)) : Option SV → Option (SV × Eff)
  | some (.d (.pp cs off)) => (loadD P T cs off).map fun s => (.d s, .no)
  | some (.op b off) => match B b with
    | some cs => (loadS P T cs off).map fun s => (s, .no)
    | none => none
  | _ => none
@[simp] theorem loadE_pp (T : TypeId) (B : Nat → Option (List SV)) (cs : List D) (off : Nat) : loadE P T B (some (.d (.pp cs off))) = (loadD P T cs off).map fun s => (.d s, .no) := (rfl)
def loadB (P : Program) (T : TypeId) (off : Nat) : Option (List SV) → Option (SV × Eff)
  | some cs => (loadS P T cs off).map fun s => (s, .no)
  | none => none
@[simp] theorem loadB_some (T off : Nat) (cs : List SV) : loadB P T off (some cs) = (loadS P T cs off).map fun s => (s, .no) := (rfl)
@[simp] theorem loadE_op (T : TypeId) (B : Nat → Option (List SV)) (b off : Nat) : loadE P T B (some (.op b off)) = loadB P T off (B b) := (rfl)
@[simp] theorem SeeT_load (T : TypeId) (x : Operand) : @SeeT true dr P AA bb ii ⟨⟨d, .load T x, ty, p, af, g⟩⟩ ⟨ll⟩ E S QQ = OpT (loadE P T S.B (evalO E x)) (fun t s e => @VLt t dr P AA bb (ii + 1) ⟨ll⟩ (E.put d s) (S.app (bb + ii) e) QQ) := SeeT_op_ rfl
def storeE (B : Nat → Option (List SV)) : Option SV → Option SV → Option Nat → Option (SV × Eff)
  | some (.op b off), some s, some n => match B b with
    | some cs => onlyIf (s.one = true ∧ s.cells.length = n ∧ off + n ≤ cs.length) (.d (.v undef), .set b (cs.take off ++ s.cells ++ cs.drop (off + n)))
    | none => none
  | _, _, _ => none
def storeB (b off n : Nat) (s : SV) : Option (List SV) → Option (SV × Eff)
  | some cs => onlyIf (s.one = true ∧ s.cells.length = n ∧ off + n ≤ cs.length) (.d (.v undef), .set b (cs.take off ++ s.cells ++ cs.drop (off + n)))
  | none => none
@[simp] theorem storeB_some (b off n : Nat) (s : SV) (cs : List SV) : storeB b off n s (some cs) = onlyIf (s.one = true ∧ s.cells.length = n ∧ off + n ≤ cs.length) (.d (.v undef), .set b (cs.take off ++ s.cells ++ cs.drop (off + n))) := (rfl)
@[simp] theorem storeE_some (B : Nat → Option (List SV)) (b off n : Nat) (s : SV) : storeE B (some (.op b off)) (some s) (some n) = storeB b off n s (B b) := (rfl)
@[simp] theorem SeeT_store (T : TypeId) (x y : Operand) : @SeeT true dr P AA bb ii ⟨⟨d, .store T x y, ty, p, af, g⟩⟩ ⟨ll⟩ E S QQ = OpT (storeE S.B (evalO E x) (evalO E y) (szOf P T)) (fun t s e => @VLt t dr P AA bb (ii + 1) ⟨ll⟩ (E.put d s) (S.app (bb + ii) e) QQ) := SeeT_op_ rfl
def nilE : Option SV → Option (SV × Eff)
  | some s => if notNil s = true then some (s, .no) else none
  | none => none
@[simp] theorem nilE_op (b off : Nat) : nilE (some (.op b off)) = some (.op b off, .no) := (rfl)
@[simp] theorem nilE_pp (cs : List D) (off : Nat) : nilE (some (.d (.pp cs off))) = some (.d (.pp cs off), .no) := (rfl)
@[simp] theorem SeeT_nilCheck (x : Operand) : @SeeT true dr P AA bb ii ⟨⟨d, .nilCheck x, ty, p, af, g⟩⟩ ⟨ll⟩ E S QQ = OpT (nilE (evalO E x)) (fun t s e => @VLt t dr P AA bb (ii + 1) ⟨ll⟩ (E.put d s) (S.app (bb + ii) e) QQ) := SeeT_op_ rfl
def binE (P : Program) (op : BinOp) (T : TypeId) : Option SV → Option SV → Option (SV × Eff)
  | some (.d (.v u)), some (.d (.v v)) => (binS P op T u v).map fun r => (.d (.v r), .no)
  | _, _ => none
@[simp] theorem binE_some (op : BinOp) (T : TypeId) (u v : Value) : binE P op T (some (.d (.v u))) (some (.d (.v v))) = (binS P op T u v).map fun r => (.d (.v r), .no) := (rfl)
@[simp] theorem SeeT_bin_tmp (op : BinOp) (T T2 : TypeId) (x : Operand) (t : Nat) : @SeeT true dr P AA bb ii ⟨⟨d, .binOp op T x (.tmp t) T2, ty, p, af, g⟩⟩ ⟨ll⟩ E S QQ = OpT (binE P op T (evalO E x) (evalO E (.tmp t))) (fun t s e => @VLt t dr P AA bb (ii + 1) ⟨ll⟩ (E.put d s) (S.app (bb + ii) e) QQ) := SeeT_op_ rfl
@[simp] theorem SeeT_bin_int (op : BinOp) (T T2 : TypeId) (x : Operand) (k : IntKind) (n : Int) : @SeeT true dr P AA bb ii ⟨⟨d, .binOp op T x (.const (.int k n)) T2, ty, p, af, g⟩⟩ ⟨ll⟩ E S QQ = OpT (binE P op T (evalO E x) (some (.d (.v (.int k n))))) (fun t s e => @VLt t dr P AA bb (ii + 1) ⟨ll⟩ (E.put d s) (S.app (bb + ii) e) QQ) := SeeT_op_ rfl
@[simp] theorem SeeT_bin_bool (op : BinOp) (T T2 : TypeId) (x : Operand) (b : Bool) : @SeeT true dr P AA bb ii ⟨⟨d, .binOp op T x (.const (.bool b)) T2, ty, p, af, g⟩⟩ ⟨ll⟩ E S QQ = OpT (binE P op T (evalO E x) (some (.d (.v (.bool b))))) (fun t s e => @VLt t dr P AA bb (ii + 1) ⟨ll⟩ (E.put d s) (S.app (bb + ii) e) QQ) := SeeT_op_ rfl
@[simp] theorem SeeT_bin_string (op : BinOp) (T T2 : TypeId) (x : Operand) (s : ByteArray) : @SeeT true dr P AA bb ii ⟨⟨d, .binOp op T x (.const (.string s)) T2, ty, p, af, g⟩⟩ ⟨ll⟩ E S QQ = OpT (binE P op T (evalO E x) (some (.d (.v (.string s))))) (fun t s e => @VLt t dr P AA bb (ii + 1) ⟨ll⟩ (E.put d s) (S.app (bb + ii) e) QQ) := SeeT_op_ rfl
def nilTestE (P : Program) (op : BinOp) (T : TypeId) (c : Value) : Option SV → Option (SV × Eff)
  | some s => (evalNil P op T s c).map fun s => (s, .no)
  | none => none
@[simp] theorem nilTestE_some (op : BinOp) (T : TypeId) (c : Value) (s : SV) : nilTestE P op T c (some s) = (evalNil P op T s c).map fun s => (s, .no) := (rfl)
@[simp] theorem SeeT_bin_nilI (op : BinOp) (T T2 : TypeId) (x : Operand) : @SeeT true dr P AA bb ii ⟨⟨d, .binOp op T x (.const .nilIface) T2, ty, p, af, g⟩⟩ ⟨ll⟩ E S QQ = OpT (nilTestE P op T .nilIface (evalO E x)) (fun t s e => @VLt t dr P AA bb (ii + 1) ⟨ll⟩ (E.put d s) (S.app (bb + ii) e) QQ) := SeeT_op_ rfl
@[simp] theorem SeeT_bin_nilP (op : BinOp) (T T2 : TypeId) (x : Operand) : @SeeT true dr P AA bb ii ⟨⟨d, .binOp op T x (.const (.pointer none)) T2, ty, p, af, g⟩⟩ ⟨ll⟩ E S QQ = OpT (nilTestE P op T (.pointer none) (evalO E x)) (fun t s e => @VLt t dr P AA bb (ii + 1) ⟨ll⟩ (E.put d s) (S.app (bb + ii) e) QQ) := SeeT_op_ rfl
def unE (op : UnOp) : Option SV → Option (SV × Eff)
  | some (.d (.v u)) => (unS op u).map fun r => (.d (.v r), .no)
  | _ => none
@[simp] theorem unE_some (op : UnOp) (u : Value) : unE op (some (.d (.v u))) = (unS op u).map fun r => (.d (.v r), .no) := (rfl)
@[simp] theorem SeeT_un (op : UnOp) (T : TypeId) (x : Operand) : @SeeT true dr P AA bb ii ⟨⟨d, .unOp op T x, ty, p, af, g⟩⟩ ⟨ll⟩ E S QQ = OpT (unE op (evalO E x)) (fun t s e => @VLt t dr P AA bb (ii + 1) ⟨ll⟩ (E.put d s) (S.app (bb + ii) e) QQ) := SeeT_op_ rfl
def convE (P : Program) (id : Nat) (T U : TypeId) : Option SV → Option (SV × Eff)
  | some s => evalConv P id T U s
  | none => none
@[simp] theorem convE_some (T U : TypeId) (s : SV) : convE P id T U (some s) = evalConv P id T U s := (rfl)
@[simp] theorem SeeT_convert (T U : TypeId) (x : Operand) : @SeeT true dr P AA bb ii ⟨⟨d, .convert T U x, ty, p, af, g⟩⟩ ⟨ll⟩ E S QQ = OpT (convE P (bb + ii) T U (evalO E x)) (fun t s e => @VLt t dr P AA bb (ii + 1) ⟨ll⟩ (E.put d s) (S.app (bb + ii) e) QQ) := SeeT_op_ rfl
def makeE (P : Program) (S : St) (id : Nat) (d : Option Nat) (T : TypeId) : Option SV → Option SV → Option (SV × Eff)
  | some s, some t => evalMake P S id d T s t
  | _, _ => none
@[simp] theorem makeE_some (T : TypeId) (s t : SV) : makeE P S id d T (some s) (some t) = evalMake P S id d T s t := (rfl)
@[simp] theorem SeeT_makeSlice (T : TypeId) (x y : Operand) : @SeeT true dr P AA bb ii ⟨⟨d, .makeSlice T x y, ty, p, af, g⟩⟩ ⟨ll⟩ E S QQ = OpT (makeE P S (bb + ii) d T (evalO E x) (evalO E y)) (fun t s e => @VLt t dr P AA bb (ii + 1) ⟨ll⟩ (E.put d s) (S.app (bb + ii) e) QQ) := SeeT_op_ rfl
def sliceE (P : Program) (E : Env) (S : St) (T : TypeId) (lo hi : Option Operand) : Option SV → Option (SV × Eff)
  | some s => (evalSlice P E S T s lo hi).map fun s => (s, .no)
  | none => none
@[simp] theorem sliceE_some (T : TypeId) (lo hi : Option Operand) (s : SV) : sliceE P E S T lo hi (some s) = (evalSlice P E S T s lo hi).map fun s => (s, .no) := (rfl)
@[simp] theorem SeeT_slice (T : TypeId) (x : Operand) (lo hi : Option Operand) : @SeeT true dr P AA bb ii ⟨⟨d, .slice T x lo hi none, ty, p, af, g⟩⟩ ⟨ll⟩ E S QQ = OpT (sliceE P E S T lo hi (evalO E x)) (fun t s e => @VLt t dr P AA bb (ii + 1) ⟨ll⟩ (E.put d s) (S.app (bb + ii) e) QQ) := SeeT_op_ rfl
def fieldE (P : Program) : Option SV → Option (TypeId × Nat) → Option (SV × Eff)
  | some (.ag cs), some (t, off) => (loadS P t cs off).map fun s => (s, .no)
  | some (.d (.agg cs)), some (t, off) => (loadD P t cs off).map fun s => (.d s, .no)
  | _, _ => none
@[simp] theorem fieldE_ag (cs : List SV) (t off : Nat) : fieldE P (some (.ag cs)) (some (t, off)) = (loadS P t cs off).map fun s => (s, .no) := (rfl)
@[simp] theorem fieldE_agg (cs : List D) (t off : Nat) : fieldE P (some (.d (.agg cs))) (some (t, off)) = (loadD P t cs off).map fun s => (.d s, .no) := (rfl)
@[simp] theorem SeeT_field (T : TypeId) (x : Operand) (i : Nat) : @SeeT true dr P AA bb ii ⟨⟨d, .field T x i, ty, p, af, g⟩⟩ ⟨ll⟩ E S QQ = OpT (fieldE P (evalO E x) (fieldTy P T i)) (fun t s e => @VLt t dr P AA bb (ii + 1) ⟨ll⟩ (E.put d s) (S.app (bb + ii) e) QQ) := SeeT_op_ rfl
def fieldAddrE : Option SV → Option Nat → Option (SV × Eff)
  | some (.d (.pp cs off)), some n => some (.d (.pp cs (off + n)), .no)
  | some (.op b off), some n => some (.op b (off + n), .no)
  | _, _ => none
@[simp] theorem fieldAddrE_pp (cs : List D) (off n : Nat) : fieldAddrE (some (.d (.pp cs off))) (some n) = some (.d (.pp cs (off + n)), .no) := (rfl)
@[simp] theorem fieldAddrE_op (b off n : Nat) : fieldAddrE (some (.op b off)) (some n) = some (.op b (off + n), .no) := (rfl)
@[simp] theorem SeeT_fieldAddr (T : TypeId) (x : Operand) (i : Nat) : @SeeT true dr P AA bb ii ⟨⟨d, .fieldAddr T x i, ty, p, af, g⟩⟩ ⟨ll⟩ E S QQ = OpT (fieldAddrE (evalO E x) (fieldOf P T i)) (fun t s e => @VLt t dr P AA bb (ii + 1) ⟨ll⟩ (E.put d s) (S.app (bb + ii) e) QQ) := SeeT_op_ rfl
def indexAddrE (P : Program) (T : TypeId) : Option SV → Option SV → Option (SV × Eff)
  | some s, some (.d (.v (.int _ i))) => (evalIndexAddr P T s i).map fun s => (s, .no)
  | _, _ => none
@[simp] theorem indexAddrE_some (T : TypeId) (s : SV) (k : IntKind) (i : Int) : indexAddrE P T (some s) (some (.d (.v (.int k i)))) = (evalIndexAddr P T s i).map fun s => (s, .no) := (rfl)
@[simp] theorem SeeT_indexAddr (T : TypeId) (x y : Operand) : @SeeT true dr P AA bb ii ⟨⟨d, .indexAddr T x y, ty, p, af, g⟩⟩ ⟨ll⟩ E S QQ = OpT (indexAddrE P T (evalO E x) (evalO E y)) (fun t s e => @VLt t dr P AA bb (ii + 1) ⟨ll⟩ (E.put d s) (S.app (bb + ii) e) QQ) := SeeT_op_ rfl
/-- Byte i of a text. -/
def byteI (s : ByteArray) (i : Nat) : Int := ((s.data.toList.getD i 0).toNat : Int)
def indexE : Option SV → Option SV → Bool → Option (SV × Eff)
  | some (.d (.v (.string s))), some (.d (.v (.int _ i))), true => onlyIf (0 ≤ i ∧ i < s.size) (.d (.v (.int .u8 (s.data.toList.getD i.toNat 0).toNat)), .no)
  | _, _, _ => none
@[simp] theorem indexE_some (s : ByteArray) (k : IntKind) (i : Int) : indexE (some (.d (.v (.string s)))) (some (.d (.v (.int k i)))) true = onlyIf (0 ≤ i ∧ i < s.size) (.d (.v (.int .u8 (byteI s i.toNat))), .no) := (rfl)
@[simp] theorem SeeT_index (T : TypeId) (x y : Operand) : @SeeT true dr P AA bb ii ⟨⟨d, .index T x y, ty, p, af, g⟩⟩ ⟨ll⟩ E S QQ = OpT (indexE (evalO E x) (evalO E y) (isString P T)) (fun t s e => @VLt t dr P AA bb (ii + 1) ⟨ll⟩ (E.put d s) (S.app (bb + ii) e) QQ) := SeeT_op_ rfl
def mkIfcE (T : TypeId) : Option SV → Option Bool → Option (SV × Eff)
  | some s, some false => some (mkIfc T s, .no)
  | _, _ => none
@[simp] theorem mkIfcE_some (T : TypeId) (s : SV) : mkIfcE T (some s) (some false) = some (mkIfc T s, .no) := (rfl)
@[simp] theorem SeeT_makeInterface (T : TypeId) (x : Operand) : @SeeT true dr P AA bb ii ⟨⟨d, .makeInterface T x, ty, p, af, g⟩⟩ ⟨ll⟩ E S QQ = OpT (mkIfcE T (evalO E x) (isIface P T)) (fun t s e => @VLt t dr P AA bb (ii + 1) ⟨ll⟩ (E.put d s) (S.app (bb + ii) e) QQ) := SeeT_op_ rfl
def assertE (P : Program) (A : TypeId) (ok : Bool) : Option SV → Option (SV × Eff)
  | some s => (evalAssert P A ok s).map fun s => (s, .no)
  | none => none
@[simp] theorem assertE_some (A : TypeId) (ok : Bool) (s : SV) : assertE P A ok (some s) = (evalAssert P A ok s).map fun s => (s, .no) := (rfl)
@[simp] theorem SeeT_typeAssert (x : Operand) (T A : TypeId) (ok : Bool) : @SeeT true dr P AA bb ii ⟨⟨d, .typeAssert x T A ok, ty, p, af, g⟩⟩ ⟨ll⟩ E S QQ = OpT (assertE P A ok (evalO E x)) (fun t s e => @VLt t dr P AA bb (ii + 1) ⟨ll⟩ (E.put d s) (S.app (bb + ii) e) QQ) := SeeT_op_ rfl
def extractE (i : Nat) : Option SV → Option (SV × Eff)
  | some t => (tupS t i).map fun s => (s, .no)
  | none => none
@[simp] theorem extractE_some (i : Nat) (t : SV) : extractE i (some t) = (tupS t i).map fun s => (s, .no) := (rfl)
@[simp] theorem SeeT_extract (x : Operand) (i : Nat) : @SeeT true dr P AA bb ii ⟨⟨d, .extract x i, ty, p, af, g⟩⟩ ⟨ll⟩ E S QQ = OpT (extractE i (evalO E x)) (fun t s e => @VLt t dr P AA bb (ii + 1) ⟨ll⟩ (E.put d s) (S.app (bb + ii) e) QQ) := SeeT_op_ rfl
def lenE (P : Program) (T : TypeId) : Option SV → Option (SV × Eff)
  | some s => (evalLen P s T).map fun s => (s, .no)
  | none => none
@[simp] theorem lenE_some (T : TypeId) (s : SV) : lenE P T (some s) = (evalLen P s T).map fun s => (s, .no) := (rfl)
@[simp] theorem SeeT_len (x : Operand) (T : TypeId) : @SeeT true dr P AA bb ii ⟨⟨d, .call { callee := .builtin .len, args := #[x], argTypes := #[T] }, ty, p, af, g⟩⟩ ⟨ll⟩ E S QQ = OpT (lenE P T (evalO E x)) (fun t s e => @VLt t dr P AA bb (ii + 1) ⟨ll⟩ (E.put d s) (S.app (bb + ii) e) QQ) := SeeT_op_ rfl
def appendE (P : Program) (S : St) (id : Nat) (d : Option Nat) (T : TypeId) : Option SV → Option SV → Option (SV × Eff)
  | some s, some t => evalAppend P S id d T s t
  | _, _ => none
@[simp] theorem appendE_some (T : TypeId) (s t : SV) : appendE P S id d T (some s) (some t) = evalAppend P S id d T s t := (rfl)
theorem evalOp_append (x y : Operand) (T : TypeId) : evalOp P E S id ⟨d, .call { callee := .builtin .append, args := #[x, y], argTypes := #[T, T] }, ty, p, af, g⟩ = appendE P S id d T (evalO E x) (evalO E y) := by
  show (match evalO E x, evalO E y with | some s, some t => if T = T then evalAppend P S id d T s t else none | _, _ => none) = _
  unfold appendE
  split <;> simp
@[simp] theorem SeeT_append (x y : Operand) (T : TypeId) : @SeeT true dr P AA bb ii ⟨⟨d, .call { callee := .builtin .append, args := #[x, y], argTypes := #[T, T] }, ty, p, af, g⟩⟩ ⟨ll⟩ E S QQ = OpT (appendE P S (bb + ii) d T (evalO E x) (evalO E y)) (fun t s e => @VLt t dr P AA bb (ii + 1) ⟨ll⟩ (E.put d s) (S.app (bb + ii) e) QQ) := by
  rw [SeeT_op_ rfl, evalOp_append]
end
end
end Go.Sh
