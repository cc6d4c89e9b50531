/- THE SHADOW, 12: code as a proposition without machine, and the words by which it is reckoned. Over any program. -/
import Derived.Test.YtghbkljdpikpdaaShM
set_option linter.unusedVariables false
set_option linter.unusedSimpArgs false
namespace Go.Sh
open Go.RowKit (Below)

section
variable {P : Program} {E E' : Env} {S S' : St}

def Cnd (r : Option SV) (x y : Prop) : Prop := match r with | some (.d (.v (.bool b))) => Br b x y | _ => False

/-- Code: what is left to show. A loop stands as it is. -/
def VC (P : Program) : Code → Env → St → (Exit → Env → St → Prop) → Prop
  | .skip, E, S, Q => Q .normal E S
  | .label _, E, S, Q => Q .normal E S
  | .exit id, E, S, Q => Q (.exit id) E S
  | .ret, E, S, Q => Q .ret E S
  | .seq x y, E, S, Q => VC P x E S (Then (fun E' S' => VC P y E' S' Q) Q)
  | .block id c, E, S, Q => VC P c E S (InBlock id Q)
  | .cond c x y, E, S, Q => Cnd (evalO E c) (VC P x E S Q) (VC P y E S Q)
  | .region _ ops false, E, S, Q => VL (fun _ => true) P ops S.nx 0 ops.toList E (S.adv ops.size) (fun E' S' => Q .normal E' S')
  | .region _ ops true, E, S, Q => (∃ sp ol, drawOk P ops sp ol = true ∧ SepT sp E ∧ OldT ol S.nx E) ∧ VL (drawLo ops) P ops S.nx 0 ops.toList E (S.adv ops.size) (fun E' S' => Q .normal E' S')
  | c, E, S, Q => CS P c E S Q

theorem VC.sound : ∀ {c : Code} {E : Env} {S : St} {Q : Exit → Env → St → Prop}, VC P c E S Q → CS P c E S Q
  | .skip, E, S, Q, h => CS.skip h
  | .label _, E, S, Q, h => CS.label h
  | .exit id, E, S, Q, h => CS.exit h
  | .ret, E, S, Q, h => CS.ret h
  | .seq x y, E, S, Q, h => CS.seq ((VC.sound (c := x) h).mono (fun ex E' S' q => by
      cases ex with
      | normal => exact VC.sound (c := y) q
      | _ => exact q))
  | .block id c, E, S, Q, h => CS.block (VC.sound (c := c) h)
  | .cond c x y, E, S, Q, h => by
    unfold VC Cnd at h
    split at h
    · rename_i b hb
      exact CS.cond hb (fun e => VC.sound (h.1 e)) (fun e => VC.sound (h.2 e))
    · exact h.elim
  | .region id ops false, E, S, Q, h => by
    have := CS.region (P := P) (id := id) (ops := ops.toList) (Q := Q) (E := E) (S := S) (by
      have h3 := VL.sound (P := P) (ops := ops) h
      simpa using h3)
    simpa using this
  | .region id ops true, E, S, Q, h => by
    obtain ⟨⟨sp, ol, h1, h2, h4⟩, h3⟩ := h
    exact CS.draw sp ol h1 h2 h4 h3
  | .loop c, E, S, Q, h => h
  | .rangeFunc .., E, S, Q, h => h
  | .scope _, E, S, Q, h => h
  | .goto _, E, S, Q, h => h
  | .refuse _, E, S, Q, h => h

/-! ### the words: a piece is opened only behind the word 'true', so that what waits for a test or a call stays shut -/
/-- The code, hidden from what looks into a proposition's parts. -/
abbrev Cd := Inhabited (Code)
abbrev Cd.c (self : Cd) : Code := self.default
abbrev Ar := Inhabited (Array Oper)
abbrev Ar.a (self : Ar) : Array Oper := self.default
abbrev Ls := Inhabited (List Oper)
abbrev Ls.l (self : Ls) : List Oper := self.default
abbrev Oc := Inhabited (Oper)
abbrev Oc.o (self : Oc) : Oper := self.default
abbrev Eh := Inhabited (Env)
abbrev Eh.e (self : Eh) : Env := self.default
/-- Which calls of a region may write. -/
def loOf (dr : Bool) (ops : Array Oper) : Nat → Bool := match dr with | true => drawLo ops | false => fun _ => true
def VLt (_ : Bool) (dr : Bool) (P : Program) [A : Ar] (base i : Nat) [l : Ls] (E : Env) (S : St) (Q : Env → St → Prop) : Prop := VL (loOf dr A.a) P A.a base i l.l E S Q
def VCt (_ : Bool) (P : Program) [c : Cd] (E : Env) (S : St) (Q : Exit → Env → St → Prop) : Prop := VC P c.c E S Q
def LoopT (P : Program) [c : Cd] (E : Env) (S : St) (Q : Exit → Env → St → Prop) : Prop := CS P (.loop c.c) E S Q
def DrawT (P : Program) [A : Ar] (E : Env) (n : Nat) : Prop := ∃ sp ol, drawOk P A.a sp ol = true ∧ SepT sp E ∧ OldT ol n E
theorem DrawT.mk {P : Program} {A : Ar} {E : Env} {n : Nat} (h : drawOk P A.a [] [] = true) : @DrawT P A E n := ⟨[], [], h, trivial, trivial⟩
/-- The pairs that are told apart by their pointers. -/
theorem DrawT.sp {P : Program} {A : Ar} {E : Env} {n : Nat} (sp : Spl) (h : drawOk P A.a sp [] = true) (k : SepT sp E) : @DrawT P A E n := ⟨sp, [], h, k, trivial⟩
/-- The pairs of which one makes a new variable. -/
theorem DrawT.ol {P : Program} {A : Ar} {E : Env} {n : Nat} (ol : Old) (h : drawOk P A.a [] ol = true) (k : OldT ol n E) : @DrawT P A E n := ⟨[], ol, h, trivial, k⟩
@[simp] theorem OldT_nil {n : Nat} {E : Env} : OldT [] n E = True := rfl
@[simp] theorem OldT_cons {E : Env} (x : Nat × Nat) (y n : Nat) (l : Old) : OldT ((x, y) :: l) n E = (below n (refOf (E x.2)) ∧ OldT l n E) := rfl
@[simp] theorem below_some (n b : Nat) : below n (some b) = (b < n) := rfl
@[simp] theorem SepT_nil {E : Env} : SepT [] E = True := rfl
@[simp] theorem SepT_cons {E : Env} (x y : Nat × Nat) (l : Spl) : SepT ((x, y) :: l) E = (apart (refOf (E x.2)) (refOf (E y.2)) ∧ SepT l E) := rfl
@[simp] theorem refOf_some (b off : Nat) : refOf (some (.op b off)) = some b := rfl
@[simp] theorem apart_some (b c : Nat) : apart (some b) (some c) = (b ≠ c) := rfl
/-- A call that may write, at its place in the region. -/
def LoudT (dr : Bool) [A : Ar] (base i : Nat) [E : Eh] : Lo := loAt (loOf dr A.a) A.a base i E.e
/-- In the text's order any call may write. -/
def txtLo : Lo := ⟨true, False, 0, 0⟩
def BrT (b : Bool) (x y : Bool → Prop) : Prop := Br b (x true) (y true)
@[simp] theorem BrT_true (x y : Bool → Prop) : BrT true x y = x true := by simp [BrT, Br]
@[simp] theorem BrT_false (x y : Bool → Prop) : BrT false x y = y true := by simp [BrT, Br]
@[simp] theorem BrT_not (b : Bool) (x y : Bool → Prop) : BrT (!b) x y = BrT b y x := by cases b <;> simp
theorem BrT.mk {b : Bool} {x y : Bool → Prop} (h : b = true → x true) (k : b = false → y true) : BrT b x y := ⟨h, k⟩
theorem BrT.dec {p : Prop} [Decidable p] {x y : Bool → Prop} (h : p → x true) (k : ¬ p → y true) : BrT (decide p) x y := ⟨fun e => h (of_decide_eq_true e), fun e => k (of_decide_eq_false e)⟩
theorem BrT.yes {p : Prop} [Decidable p] {x y : Bool → Prop} (hp : p) (h : x true) : BrT (decide p) x y := .dec (fun _ => h) (fun n => absurd hp n)
theorem BrT.no {p : Prop} [Decidable p] {x y : Bool → Prop} (hp : ¬ p) (h : y true) : BrT (decide p) x y := .dec (fun n => absurd n hp) (fun _ => h)
def CallT (lo : Lo) (P : Program) (g : FuncId) (ss : List SV) (S : St) (K : Bool → SV → St → Prop) : Prop := Callv lo P g ss S (K true)
theorem CallT.p {lo : Lo} {g : FuncId} {ss : List SV} {K : Bool → SV → St → Prop} {ds : List D} {r : D} {gl : Nat → Option D} (h : PCall P gl g ds r) (hg : S.gl = gl) (hd : toDs ss = some ds) (k : K true (.d r) S) : CallT lo P g ss S K := .inl ⟨ds, r, hd, by rw [hg]; exact h, k⟩
theorem CallT.l {lo : Lo} {g : FuncId} {ss : List SV} {K : Bool → SV → St → Prop} {r : SV} {S' : St} (h : LCall P g ss S r S') (hl : lo.loud = true) (k : K true r S') : CallT lo P g ss S K := .inr (.inl ⟨hl, r, S', h, k⟩)
/-- One that makes memory of its own, in a region that draws its order. -/
theorem CallT.own {A : Ar} {base i : Nat} {Eh : Eh} {g : FuncId} {ss : List SV} {K : Bool → SV → St → Prop} {r : SV} {fB : (Nat → Option (List SV)) → (Nat → Option (List SV))} {m : Nat} (l : Old) (hf : freeAt A.a i = true) (hl : oldOf A.a i = l) (ho : OldT l base Eh.e) (h : OwnK P g ss S base (base + A.a.size) r fB m) (k : K true r { S with B := fB S.B, nx := m }) : CallT (@LoudT true A base i Eh) P g ss S K := by
  refine .inr (.inr ⟨⟨?_, ?_, ?_⟩, r, fB, m, h, k⟩)
  · show drawLo A.a A.a.size = false
    unfold drawLo
    rw [if_neg (Nat.lt_irrefl _), if_pos rfl]
  · show drawLo A.a (A.a.size + 1 + i) = true
    unfold drawLo
    rw [if_neg (by omega), if_neg (by omega), show A.a.size + 1 + i - (A.a.size + 1) = i by omega]
    exact hf
  · show OldT (oldOf A.a i) base Eh.e
    rw [hl]; exact ho
/-- A call without a sign, the result of which leads to no memory, does with one. -/
theorem PCall.anyV {g : FuncId} {ds : List D} {x : Value} {gl : Nat → Option D} (h : PCall P (fun _ => none) g ds (.v x)) : PCall P gl g ds (.v x) :=
  ⟨h.1, fun m w vals hm hg hl hv => (h.2 m w vals hm ⟨nofun, fun e => absurd rfl e⟩ hl hv).mono fun e w' ⟨u, m', he, h1, h2, h3, h4, _⟩ => by
    refine ⟨u, m, he, ?_, fun _ _ => rfl, fun B hB => hm B (Nat.le_trans h4.size hB), h4, fun _ B hB hpos => ?_⟩
    · cases h1 with
      | v hx => exact .v hx
    · rw [hm B hB] at hpos; exact absurd hpos (Nat.lt_irrefl _)⟩
theorem CallT.p0 {lo : Lo} {g : FuncId} {ss : List SV} {K : Bool → SV → St → Prop} {ds : List D} {r : D} {gl : Nat → Option D} (h : PCall P gl g ds r) (hg : S.gl = gl) (hd : toDs ss = some ds) (k : K true (.d r) S) : CallT lo P g ss S K := .p h hg hd k
def InvT (P : Program) (t : TypeId) (y : D) (name : String) (ss : List SV) (S : St) (K : Bool → SV → Prop) : Prop := Invk P t y name ss S (K true)
theorem InvT.p {t : TypeId} {y : D} {name : String} {ss : List SV} {K : Bool → SV → Prop} {g : FuncId} {ds : List D} {r : D} {gl : Nat → Option D} (h : PCall P gl g (y :: ds) r) (hg : S.gl = gl) (hm : methOf P t name = some g) (hd : toDs ss = some ds) (k : K true (.d r)) : InvT P t y name ss S K := ⟨g, ds, r, hm, hd, by rw [hg]; exact h, k⟩
def FnT (r : Option SV) (K : Bool → FuncId → List SV → List SV → Prop) : Prop := FnK r (K true)
@[simp] theorem FnT_fn (g : FuncId) (xs ys : List SV) (K : Bool → FuncId → List SV → List SV → Prop) : FnT (some (.fn (.func g) xs ys)) K = K true g xs ys := (rfl)
@[simp] theorem FnT_dfn (g : FuncId) (xs ys : List D) (K : Bool → FuncId → List SV → List SV → Prop) : FnT (some (.d (.fn (.func g) xs ys))) K = K true g (xs.map .d) (ys.map .d) := (rfl)
/-- A region in the text's order. -/
def TxtT (dr : Bool) [A : Ar] : Bool := loOf dr A.a A.a.size
def TxtL (dr : Bool) [A : Ar] : Lo := ⟨loOf dr A.a A.a.size, False, 0, 0⟩
@[simp] theorem TxtL_text [A : Ar] : TxtL false = txtLo := (rfl)
@[simp] theorem TxtT_text [A : Ar] : TxtT false = true := (rfl)
/-- What is left to show, hidden. -/
def HidK (K : Bool → SV → Eff → Prop) : SV → Eff → Prop := K true
@[simp] theorem HidK_app (K : Bool → SV → Eff → Prop) (s : SV) (e : Eff) : HidK K s e = K true s e := (rfl)
def OpT (r : Option (SV × Eff)) (K : Bool → SV → Eff → Prop) : Prop := Op1 r (K true)
@[simp] theorem OpT_some (s : SV) (e : Eff) (K : Bool → SV → Eff → Prop) : OpT (some (s, e)) K = K true s e := (rfl)
@[simp] theorem OpT_only (c : Prop) [Decidable c] (s : SV) (e : Eff) (K : Bool → SV → Eff → Prop) : OpT (onlyIf c (s, e)) K = (c ∧ K true s e) := by
  unfold onlyIf
  by_cases h : c <;> simp [h, OpT, Op1]
def ArgT (r : Option (List SV)) (K : Bool → List SV → Prop) : Prop := ArgK r (K true)
@[simp] theorem ArgT_some (ds : List SV) (K : Bool → List SV → Prop) : ArgT (some ds) K = K true ds := (rfl)
def RecT (r : Option SV) (K : Bool → TypeId → D → Prop) : Prop := RecK r (K true)
@[simp] theorem RecT_some (t : TypeId) (y : D) (K : Bool → TypeId → D → Prop) : RecT (some (.d (.ifc t y))) K = K true t y := (rfl)
def WantT (r : Option Bool) (x y : Bool → Prop) : Prop := Want r (x true) (y true)
@[simp] theorem WantT_some (b : Bool) (x y : Bool → Prop) : WantT (some b) x y = BrT b x y := (rfl)
def CndT (r : Option SV) (x y : Bool → Prop) : Prop := Cnd r (x true) (y true)
@[simp] theorem CndT_some (b : Bool) (x y : Bool → Prop) : CndT (some (.d (.v (.bool b)))) x y = BrT b x y := (rfl)
def ThenT (N : Bool → Env → St → Prop) (Q : Exit → Env → St → Prop) : Exit → Env → St → Prop := Then (N true) Q
@[simp] theorem ThenT_normal (N : Bool → Env → St → Prop) (Q : Exit → Env → St → Prop) : ThenT N Q .normal E S = N true E S := (rfl)
@[simp] theorem ThenT_exit (N : Bool → Env → St → Prop) (Q : Exit → Env → St → Prop) (i : Nat) : ThenT N Q (.exit i) E S = Q (.exit i) E S := (rfl)
@[simp] theorem ThenT_ret (N : Bool → Env → St → Prop) (Q : Exit → Env → St → Prop) : ThenT N Q .ret E S = Q .ret E S := (rfl)
@[simp] theorem Then_normal (N : Env → St → Prop) (Q : Exit → Env → St → Prop) : Then N Q .normal E S = N E S := (rfl)
@[simp] theorem Then_exit (N : Env → St → Prop) (Q : Exit → Env → St → Prop) (i : Nat) : Then N Q (.exit i) E S = Q (.exit i) E S := (rfl)
@[simp] theorem Then_ret (N : Env → St → Prop) (Q : Exit → Env → St → Prop) : Then N Q .ret E S = Q .ret E S := (rfl)
def RegT (Q : Exit → Env → St → Prop) : Env → St → Prop := fun E S => Q .normal E S
@[simp] theorem RegT_app (Q : Exit → Env → St → Prop) : RegT Q E S = Q .normal E S := (rfl)
@[simp] theorem InBlock_normal (id : Nat) (Q : Exit → Env → St → Prop) : InBlock id Q .normal E S = Q .normal E S := (rfl)
@[simp] theorem InBlock_ret (id : Nat) (Q : Exit → Env → St → Prop) : InBlock id Q .ret E S = Q .ret E S := (rfl)
@[simp] theorem InBlock_exit (id : Nat) (Q : Exit → Env → St → Prop) (i : Nat) : InBlock id Q (.exit i) E S = if i = id then Q .normal E S else Q (.exit i) E S := (rfl)

def StepT (_ : Bool) (dr : Bool) (P : Program) [A : Ar] (base i : Nat) [o : Oc] [l : Ls] (E : Env) (S : St) (Q : Env → St → Prop) : Option CallK → Prop
  | some (.fn g xs) => ArgT (argsS E xs) (fun t ss => CallT (@LoudT dr A base i ⟨E⟩) P g ss S (fun t r S' => @VLt t dr P A base (i + 1) l (E.put o.o.dst r) S' Q))
  | some (.inv x name xs) => RecT (evalO E x) (fun t ty y => ArgT (argsS E xs) (fun t ss => InvT P ty y name ss S (fun t r => @VLt t dr P A base (i + 1) l (E.put o.o.dst r) S Q)))
  | some (.dyn x xs) => FnT (evalO E x) (fun t g fs cs => ArgT (argsS E xs) (fun t ss => CallT (@TxtL dr A) P g (fs ++ ss ++ cs) S (fun t r S' => @VLt t dr P A base (i + 1) l (E.put o.o.dst r) S' Q)))
  | none => OpT (evalOp P E S (base + i) o.o) (fun t s e => @VLt t dr P A base (i + 1) l (E.put o.o.dst s) (S.app (base + i) e) Q) ∨ (@TxtT dr A = true ∧ evalX P E S (base + i) o.o (HidK (fun t s e => @VLt t dr P A base (i + 1) l (E.put o.o.dst s) (S.app (base + i) e) Q)))
/-- One operation, seen. -/
def SeeT (t : Bool) (dr : Bool) (P : Program) [A : Ar] (base i : Nat) [o : Oc] [l : Ls] (E : Env) (S : St) (Q : Env → St → Prop) : Prop := @StepT t dr P A base i o l E S Q (callOf o.o.op)

@[simp] theorem CallT_text {A : Ar} {base i : Nat} {Eh : Eh} {g : FuncId} {ss : List SV} {K : Bool → SV → St → Prop} : CallT (@LoudT false A base i Eh) P g ss S K = CallT txtLo P g ss S K := by
  unfold CallT Callv
  refine propext ⟨fun h => ?_, fun h => ?_⟩
  · rcases h with h | h | ⟨⟨h, _⟩, _⟩
    · exact .inl h
    · exact .inr (.inl ⟨rfl, h.2⟩)
    · cases h
  · rcases h with h | h | ⟨h, _⟩
    · exact .inl h
    · exact .inr (.inl ⟨rfl, h.2⟩)
    · exact h.elim
@[simp] theorem VLt_nil {dr : Bool} {A : Ar} {base i : Nat} {Q : Env → St → Prop} : @VLt true dr P A base i ⟨[]⟩ E S Q = Q E S := (rfl)
@[simp] theorem VLt_cons {dr : Bool} {A : Ar} {base i : Nat} {d : Option Nat} {op : Op} {ty : TypeId} {p : String} {af : Array Edge} {l : List Oper} {Q : Env → St → Prop} : @VLt true dr P A base i ⟨⟨d, op, ty, p, af, none⟩ :: l⟩ E S Q =
    (dstOk d S.n = true ∧ @SeeT true dr P A base i ⟨⟨d, op, ty, p, af, none⟩⟩ ⟨l⟩ E S Q) := by
  show VL (loOf dr A.a) P A.a base i (⟨d, op, ty, p, af, none⟩ :: l) E S Q = _
  rw [VL]
  have : wantS A.a E ⟨d, op, ty, p, af, none⟩ = some true := rfl
  rw [this]
  simp only [Want, Br, true_imp_iff, reduceCtorEq, false_imp_iff, and_true]
  unfold SeeT StepT
  cases callOf op with
  | none => rfl
  | some k => cases k <;> rfl
def wantG (want : Bool) : Option SV → Option Bool
  | some (.d (.v (.bool b))) => some (b == want)
  | some (.d (.v (.tuple _))) => some false
  | _ => none
@[simp] theorem wantG_bool (want b : Bool) : wantG want (some (.d (.v (.bool b)))) = some (b == want) := (rfl)
@[simp] theorem wantG_undef (want : Bool) : wantG want (some (.d (.v undef))) = some false := (rfl)
@[simp] theorem wantG_tuple (want : Bool) (vs : Array Value) : wantG want (some (.d (.v (.tuple vs)))) = some false := (rfl)
/-- The slot of a guard. -/
def GrdT [A : Ar] (j : Nat) : Option Nat := (A.a[j]?).bind (·.dst)
@[simp] theorem GrdT_mk (l : List Oper) (j : Nat) : @GrdT ⟨⟨l⟩⟩ j = (l[j]?).bind (·.dst) := by
  show ((⟨l⟩ : Array Oper)[j]?).bind (·.dst) = _
  rw [List.getElem?_toArray]
def wantD (E : Env) (want : Bool) : Option Nat → Option Bool
  | some d => wantG want (evalO E (.tmp d))
  | none => none
@[simp] theorem wantD_some (E : Env) (want : Bool) (d : Nat) : wantD E want (some d) = wantG want (evalO E (.tmp d)) := (rfl)
@[simp] theorem VLt_consG {dr : Bool} {A : Ar} {base i : Nat} {d : Option Nat} {op : Op} {ty : TypeId} {p : String} {af : Array Edge} {l : List Oper} {Q : Env → St → Prop} {j : Nat} {want : Bool} : @VLt true dr P A base i ⟨⟨d, op, ty, p, af, some (j, want)⟩ :: l⟩ E S Q =
    (dstOk d S.n = true ∧ WantT (wantD E want (@GrdT A j)) (fun t => @SeeT t dr P A base i ⟨⟨d, op, ty, p, af, some (j, want)⟩⟩ ⟨l⟩ E S Q) (fun t => @VLt t dr P A base (i + 1) ⟨l⟩ (E.put d (.d (.v undef))) S Q)) := by
  show VL (loOf dr A.a) P A.a base i (⟨d, op, ty, p, af, some (j, want)⟩ :: l) E S Q = _
  rw [VL]
  have : wantS A.a E ⟨d, op, ty, p, af, some (j, want)⟩ = wantD E want (@GrdT A j) := by
    unfold wantS wantD wantG GrdT
    rfl
  rw [this]
  unfold WantT SeeT StepT
  cases callOf op with
  | none => rfl
  | some k => cases k <;> rfl
@[simp] theorem SeeT_fn {dr : Bool} {A : Ar} {base i : Nat} {d : Option Nat} {ty : TypeId} {p : String} {af : Array Edge} {gd : Option (Nat × Bool)} {l : List Oper} {Q : Env → St → Prop} {g : FuncId} {xs : Array Operand} {ts : Array TypeId} : @SeeT true dr P A base i ⟨⟨d, .call { callee := .value (.func g), args := xs, argTypes := ts }, ty, p, af, gd⟩⟩ ⟨l⟩ E S Q =
    ArgT (argsS E xs.toList) (fun t ss => CallT (@LoudT dr A base i ⟨E⟩) P g ss S (fun t r S' => @VLt t dr P A base (i + 1) ⟨l⟩ (E.put d r) S' Q)) := rfl
@[simp] theorem SeeT_inv {dr : Bool} {A : Ar} {base i : Nat} {d : Option Nat} {ty : TypeId} {p : String} {af : Array Edge} {gd : Option (Nat × Bool)} {l : List Oper} {Q : Env → St → Prop} {x : Operand} {name : String} {xs : Array Operand} {ts : Array TypeId} : @SeeT true dr P A base i ⟨⟨d, .call { callee := .invoke x name, args := xs, argTypes := ts }, ty, p, af, gd⟩⟩ ⟨l⟩ E S Q =
    RecT (evalO E x) (fun t ty y => ArgT (argsS E xs.toList) (fun t ss => InvT P ty y name ss S (fun t r => @VLt t dr P A base (i + 1) ⟨l⟩ (E.put d r) S Q))) := rfl
@[simp] theorem SeeT_dyn {dr : Bool} {A : Ar} {base i : Nat} {d : Option Nat} {ty : TypeId} {p : String} {af : Array Edge} {gd : Option (Nat × Bool)} {l : List Oper} {Q : Env → St → Prop} {x : Nat} {xs : Array Operand} {ts : Array TypeId} : @SeeT true dr P A base i ⟨⟨d, .call { callee := .value (.tmp x), args := xs, argTypes := ts }, ty, p, af, gd⟩⟩ ⟨l⟩ E S Q =
    FnT (evalO E (.tmp x)) (fun t g fs cs => ArgT (argsS E xs.toList) (fun t ss => CallT (@TxtL dr A) P g (fs ++ ss ++ cs) S (fun t r S' => @VLt t dr P A base (i + 1) ⟨l⟩ (E.put d r) S' Q))) := rfl
/-- An operation that is no call. -/
def isOp : Op → Bool
  | .call { callee := .builtin _, .. } => true
  | .call _ => false
  | _ => true
theorem isOp_callOf {op : Op} (h : isOp op = true) : callOf op = none := by
  unfold callOf
  split
  · cases h
  · cases h
  · cases h
  · rfl
/-- One that stands in the text's order alone. -/
def isTxt : Op → Bool
  | .makeMap .. | .buildSlice .. | .lookup .. | .mapUpdate .. | .mapEntry .. | .entryStore .. | .range .. | .next .. | .entry .. => true
  | .call { callee := .builtin .len, .. } => true
  | .call { callee := .builtin .copy, .. } => true
  | _ => false
theorem evalX_no {id : Nat} {o : Oper} {K : SV → Eff → Prop} (h : isTxt o.op = false) : evalX P E S id o K = False := by
  unfold evalX
  split
  all_goals first
    | rfl
    | (rename_i ho; rw [ho] at h; cases h)
    | skip
  rename_i c ho
  obtain ⟨callee, args, tys⟩ := c
  rw [ho] at h
  simp only
  split
  · simp [isTxt] at h
  · simp [isTxt] at h
  · rfl
theorem SeeT_x_ {dr : Bool} {A : Ar} {base i : Nat} {o : Oper} {l : List Oper} {Q : Env → St → Prop} (h : isOp o.op = true) : @SeeT true dr P A base i ⟨o⟩ ⟨l⟩ E S Q =
    (OpT (evalOp P E S (base + i) o) (fun t s e => @VLt t dr P A base (i + 1) ⟨l⟩ (E.put o.dst s) (S.app (base + i) e) Q) ∨ (@TxtT dr A = true ∧ evalX P E S (base + i) o (HidK (fun t s e => @VLt t dr P A base (i + 1) ⟨l⟩ (E.put o.dst s) (S.app (base + i) e) Q)))) := by
  unfold SeeT
  rw [show callOf (Oc.o (self := ⟨o⟩)).op = none from isOp_callOf h]
  rfl
theorem SeeT_op_ {dr : Bool} {A : Ar} {base i : Nat} {o : Oper} {l : List Oper} {Q : Env → St → Prop} (h : (isOp o.op && !isTxt o.op) = true) : @SeeT true dr P A base i ⟨o⟩ ⟨l⟩ E S Q =
    OpT (evalOp P E S (base + i) o) (fun t s e => @VLt t dr P A base (i + 1) ⟨l⟩ (E.put o.dst s) (S.app (base + i) e) Q) := by
  simp only [Bool.and_eq_true, Bool.not_eq_true'] at h
  rw [SeeT_x_ h.1, evalX_no h.2]
  simp
@[simp] theorem VCt_skip {Q : Exit → Env → St → Prop} : @VCt true P ⟨.skip⟩ E S Q = Q .normal E S := (rfl)
@[simp] theorem VCt_label {l : Nat} {Q : Exit → Env → St → Prop} : @VCt true P ⟨.label l⟩ E S Q = Q .normal E S := (rfl)
@[simp] theorem VCt_exit {id : Nat} {Q : Exit → Env → St → Prop} : @VCt true P ⟨.exit id⟩ E S Q = Q (.exit id) E S := (rfl)
@[simp] theorem VCt_ret {Q : Exit → Env → St → Prop} : @VCt true P ⟨.ret⟩ E S Q = Q .ret E S := (rfl)
@[simp] theorem VCt_seq {x y : Code} {Q : Exit → Env → St → Prop} : @VCt true P ⟨.seq x y⟩ E S Q = @VCt true P ⟨x⟩ E S (ThenT (fun t E' S' => @VCt t P ⟨y⟩ E' S' Q) Q) := (rfl)
@[simp] theorem VCt_block {id : Nat} {c : Code} {Q : Exit → Env → St → Prop} : @VCt true P ⟨.block id c⟩ E S Q = @VCt true P ⟨c⟩ E S (InBlock id Q) := (rfl)
@[simp] theorem VCt_cond {c : Operand} {x y : Code} {Q : Exit → Env → St → Prop} : @VCt true P ⟨.cond c x y⟩ E S Q = CndT (evalO E c) (fun t => @VCt t P ⟨x⟩ E S Q) (fun t => @VCt t P ⟨y⟩ E S Q) := (rfl)
@[simp] theorem VCt_region {id : Nat} {l : List Oper} {Q : Exit → Env → St → Prop} : @VCt true P ⟨.region id ⟨l⟩ false⟩ E S Q = @VLt true false P ⟨⟨l⟩⟩ S.nx 0 ⟨l⟩ E (S.adv l.length) (RegT Q) := (rfl)
@[simp] theorem VCt_draw {id : Nat} {l : List Oper} {Q : Exit → Env → St → Prop} : @VCt true P ⟨.region id ⟨l⟩ true⟩ E S Q = (@DrawT P ⟨⟨l⟩⟩ E S.nx ∧ @VLt true true P ⟨⟨l⟩⟩ S.nx 0 ⟨l⟩ E (S.adv l.length) (RegT Q)) := (rfl)
@[simp] theorem VCt_loop {c : Code} {Q : Exit → Env → St → Prop} : @VCt true P ⟨.loop c⟩ E S Q = @LoopT P ⟨c⟩ E S Q := (rfl)

theorem CS.of {c : Code} {Q : Exit → Env → St → Prop} (h : @VCt true P ⟨c⟩ E S Q) : CS P c E S Q := VC.sound h

/-- A loop, with what is left to show of a round. -/
theorem LoopT.round {c : Code} {Q : Exit → Env → St → Prop} (I : Env → St → Prop) (μ : Env → St → Nat) (h0 : I E S)
    (round : ∀ E1 S1, Keeps S S1 → I E1 S1 → @VCt true P ⟨c⟩ E1 S1 (ThenT (fun _ E' S' => I E' S' ∧ μ E' S' < μ E1 S1) Q)) : @LoopT P ⟨c⟩ E S Q :=
  CS.loop I μ h0 (fun E1 S1 hk hI => CS.of (round E1 S1 hk hI))

/-- A loop of n rounds at most, round by round. -/
def RoundsV (P : Program) (c : Code) : Nat → Env → St → (Exit → Env → St → Prop) → Prop
  | 0, _, _, _ => False
  | n + 1, E, S, Q => VC P c E S (Then (fun E' S' => RoundsV P c n E' S' Q) Q)
theorem CS.rounds {c : Code} {Q : Exit → Env → St → Prop} : ∀ {n : Nat} {E : Env} {S : St}, RoundsV P c n E S Q → CS P (.loop c) E S Q := by
  intro n E S h m0 w0 G a w H hH hr QQ hQ
  refine wp_loop_rounds n ?_
  induction n generalizing E S G a w with
  | zero => exact h.elim
  | succ n ih =>
    rw [rounds_succ]
    refine VC.sound h m0 w0 G a w H hH hr _ (fun ex G' E' S' a' w' q hn hr' f => ?_)
    cases ex with
    | normal => exact ih q G' a' w' (fun b hb => Nat.lt_of_lt_of_le (hH b hb) hn.nx) hr' (fun ex G'' E'' S'' a'' w'' q' hn' hr'' f' => hQ ex G'' E'' S'' a'' w'' q' (hn.trans hn') hr'' (f.trans f'))
    | _ => exact hQ _ G' E' S' a' w' q hn hr' f
def RndT (P : Program) (n : Nat) [c : Cd] (E : Env) (S : St) (Q : Exit → Env → St → Prop) : Prop := RoundsV P c.c n E S Q
theorem RndT_succ {n : Nat} {c : Code} {Q : Exit → Env → St → Prop} : @RndT P (n + 1) ⟨c⟩ E S Q = @VCt true P ⟨c⟩ E S (ThenT (fun _ E' S' => @RndT P n ⟨c⟩ E' S' Q) Q) := (rfl)
/-- A loop whose rounds are counted out. -/
theorem LoopT.rounds {c : Code} {Q : Exit → Env → St → Prop} (n : Nat) (h : @RndT P n ⟨c⟩ E S Q) : @LoopT P ⟨c⟩ E S Q := CS.rounds h

/-- What a function's end asks. -/
def Fin (P : Program) (rs : List ResultVar) (r : D) : Exit → Env → St → Prop := fun ex E S => (ex = .normal ∨ ex = .ret) ∧ ∃ s, resS P E S rs = some s ∧ frz S.B 16 s = some r
@[simp] theorem Fin_ret {rs : List ResultVar} {r : D} : Fin P rs r .ret E S = ((resS P E S rs).bind (frz S.B 16) = some r) := by
  simp only [Fin, reduceCtorEq, or_true, true_and, Option.bind_eq_some_iff]
@[simp] theorem Fin_normal {rs : List ResultVar} {r : D} : Fin P rs r .normal E S = ((resS P E S rs).bind (frz S.B 16) = some r) := by
  simp only [Fin, or_false, reduceCtorEq, true_and, Option.bind_eq_some_iff]
theorem PCall.by_ {gl : Nat → Option D} {md : List Nat} {f : FuncId} {fn : Func} {c : Code} {args : List D} {r : D} (hf : P.funcs[f]? = some fn) (hb : fn.body = some c) (hname : (fn.name == "runtime.NumGoroutine") = false) {n : Nat} (hn : fn.ntmps = n) (hle : args.length ≤ n) (hfew : n ≤ globalsAt) {rs : List ResultVar} (hrs : fn.results.toList = rs)
    (h : @VCt true P ⟨c⟩ (startE gl (args.map .d)) (startS gl md n) (Fin P rs r)) : PCall P gl f args r := PCall.of (md := md) hf hb hname hn hle hfew (by rw [hrs]; exact VC.sound h)

/-- What the end of a function that writes asks. -/
def FinL (P : Program) (rs : List ResultVar) (r : SV) (S' : St) : Exit → Env → St → Prop := fun ex E S => (ex = .normal ∨ ex = .ret) ∧ resS P E S rs = some r ∧ Less S' S
@[simp] theorem FinL_ret {rs : List ResultVar} {r : SV} : FinL P rs r S' .ret E S = (resS P E S rs = some r ∧ Less S' S) := by
  simp only [FinL, reduceCtorEq, or_true, true_and]
@[simp] theorem FinL_normal {rs : List ResultVar} {r : SV} : FinL P rs r S' .normal E S = (resS P E S rs = some r ∧ Less S' S) := by
  simp only [FinL, or_false, reduceCtorEq, true_and]
theorem LCall.by_ {md : List Nat} {f : FuncId} {fn : Func} {c : Code} {ss : List SV} {r : SV} (hk : Keeps S S') (hf : P.funcs[f]? = some fn) (hb : fn.body = some c) (hname : (fn.name == "runtime.NumGoroutine") = false) {n : Nat} (hn : fn.ntmps = n) (hle : ss.length ≤ n) (hfew : n ≤ globalsAt) {rs : List ResultVar} (hrs : fn.results.toList = rs)
    (h : @VCt true P ⟨c⟩ (startE S.gl ss) { S with n := n, md := md } (FinL P rs r S')) : LCall P f ss S r S' := LCall.of (md := md) hf hb hname hn hle hfew hk (by rw [hrs]; exact VC.sound h)

/-! ### a call whose own variables are forgotten -/
mutual
/-- All variables and tips that it names are below n. -/
def SV.lt (n : Nat) : SV → Bool
  | .d _ => true
  | .fl _ _ => true
  | .tp i _ _ _ => decide (i < n)
  | .op b _ => decide (b < n)
  | .os b _ _ => decide (b < n)
  | .ag cs => ltS n cs
  | .tu cs => ltS n cs
  | .fc _ x => SV.lt n x
  | .fn _ xs ys => ltS n xs && ltS n ys
  | .mv b => decide (b < n)
  | .iv b => decide (b < n)
  | .sk b _ _ => decide (b < n)
  | .mc _ vs => ltS n vs
  | .ic _ _ _ => true
def ltS (n : Nat) : List SV → Bool
  | [] => true
  | s :: r => SV.lt n s && ltS n r
end
theorem ltS_get {n : Nat} : ∀ {cs : List SV}, ltS n cs = true ↔ ∀ j (h : j < cs.length), SV.lt n cs[j] = true
  | [] => by simp [ltS]
  | s :: r => by
    simp only [ltS, Bool.and_eq_true, ltS_get (cs := r)]
    constructor
    · rintro ⟨h1, h2⟩ j hj
      cases j with
      | zero => exact h1
      | succ j => exact h2 j (by simpa using hj)
    · intro h
      exact ⟨h 0 (by simp), fun j hj => h (j + 1) (by simpa using hj)⟩
/-- What is known below n. -/
def Gh.cutAt (G : Gh) (n : Nat) : Gh := { G with box := fun b => if b < n then G.box b else none, tip := fun i => if i < n then G.tip i else none, obj := fun b => if b < n then G.obj b else none }
theorem VR.lt {G : Gh} {w : World} {n : Nat} (hb : ∀ b, n ≤ b → G.box b = none) (ht : ∀ b, n ≤ b → G.tip b = none) (ho : ∀ b, n ≤ b → G.obj b = none) {s : SV} {u : Value} (h : VR G w s u) : SV.lt n s = true := by
  induction h with
  | d h => rfl
  | fl h hc => rfl
  | tp h ht' hn he =>
    rename_i i q cs n' B o c B' v k cap
    rcases Nat.lt_or_ge i n with h1 | h1
    · simp [SV.lt, h1]
    · rw [ht i h1] at ht'; cases ht'
  | op h =>
    rename_i b off B
    rcases Nat.lt_or_ge b n with h1 | h1
    · simp [SV.lt, h1]
    · rw [hb b h1] at h; cases h
  | os h hn =>
    rename_i b off n' c B
    rcases Nat.lt_or_ge b n with h1 | h1
    · simp [SV.lt, h1]
    · rw [hb b h1] at h; cases h
  | ag hl hk hv ih => simp only [SV.lt]; exact ltS_get.2 fun j hj => ih j hj (by omega)
  | tu hl hv ih => simp only [SV.lt]; exact ltS_get.2 fun j hj => ih j hj (by omega)
  | fc h ih => exact ih
  | fn hl hm hv hu ih1 ih2 =>
    simp only [SV.lt, Bool.and_eq_true]
    exact ⟨ltS_get.2 fun j hj => ih1 j hj (by omega), ltS_get.2 fun j hj => ih2 j hj (by omega)⟩
  | mv h =>
    rename_i b B
    rcases Nat.lt_or_ge b n with h1 | h1
    · simp [SV.lt, h1]
    · rw [ho b h1] at h; cases h
  | iv h =>
    rename_i b B
    rcases Nat.lt_or_ge b n with h1 | h1
    · simp [SV.lt, h1]
    · rw [ho b h1] at h; cases h
  | sk h hn hb' hr =>
    rename_i b n' sz c B us T fr
    rcases Nat.lt_or_ge b n with h1 | h1
    · simp [SV.lt, h1]
    · rw [hb b h1] at h; cases h
theorem VR.cutAt {G : Gh} {w : World} {n : Nat} {s : SV} {u : Value} (h : VR G w s u) : SV.lt n s = true → VR (G.cutAt n) w s u := by
  induction h with
  | d h => exact fun _ => .d h
  | fl h hc => exact fun _ => .fl h hc
  | tp h ht hn he =>
    intro hl
    simp only [SV.lt, decide_eq_true_eq] at hl
    exact .tp h (by simp only [Gh.cutAt, if_pos hl]; exact ht) hn he
  | op h =>
    intro hl
    simp only [SV.lt, decide_eq_true_eq] at hl
    exact .op (by simp only [Gh.cutAt, if_pos hl]; exact h)
  | os h hn =>
    intro hl
    simp only [SV.lt, decide_eq_true_eq] at hl
    exact .os (by simp only [Gh.cutAt, if_pos hl]; exact h) hn
  | ag hl hk hv ih => exact fun h => .ag hl hk fun j hj hj' => ih j hj hj' (ltS_get.1 (by simpa only [SV.lt] using h) j hj)
  | tu hl hv ih => exact fun h => .tu hl fun j hj hj' => ih j hj hj' (ltS_get.1 (by simpa only [SV.lt] using h) j hj)
  | fc h ih => exact fun h => .fc (ih h)
  | fn hl hm hv hu ih1 ih2 =>
    intro h
    simp only [SV.lt, Bool.and_eq_true] at h
    exact .fn hl hm (fun j hj hj' => ih1 j hj hj' (ltS_get.1 h.1 j hj)) (fun j hj hj' => ih2 j hj hj' (ltS_get.1 h.2 j hj))
  | mv h =>
    intro hl
    simp only [SV.lt, decide_eq_true_eq] at hl
    exact .mv (by simp only [Gh.cutAt, if_pos hl]; exact h)
  | iv h =>
    intro hl
    simp only [SV.lt, decide_eq_true_eq] at hl
    exact .iv (by simp only [Gh.cutAt, if_pos hl]; exact h)
  | sk h hn hb hr =>
    intro hl
    simp only [SV.lt, decide_eq_true_eq] at hl
    exact .sk (by simp only [Gh.cutAt, if_pos hl]; exact h) hn hb hr
theorem ObjR.cutAt {G : Gh} {w : World} {n B : Nat} {cs : List SV} (h : ObjR G w cs B) (hl : ltS n cs = true) : ObjR (G.cutAt n) w cs B := by
  cases h with
  | mp es hb h1 h2 hborn hk hv =>
    simp only [ltS, SV.lt, Bool.and_true] at hl
    exact .mp es hb h1 h2 hborn hk fun j hj hj' => (hv j hj hj').cutAt (ltS_get.1 hl j hj)
  | it hb hm => exact .it hb hm
theorem ObjR.lt {G : Gh} {w : World} {n B : Nat} {cs : List SV} (hb : ∀ b, n ≤ b → G.box b = none) (ht : ∀ b, n ≤ b → G.tip b = none) (ho : ∀ b, n ≤ b → G.obj b = none) (h : ObjR G w cs B) : ltS n cs = true := by
  cases h with
  | mp es hb' h1 h2 hborn hk hv =>
    simp only [ltS, SV.lt, Bool.and_true]
    exact ltS_get.2 fun j hj => (hv j hj (by omega)).lt hb ht ho
  | it hb' hm => simp [ltS, SV.lt]
theorem ObjR.single {G : Gh} {w : World} {B : Nat} {cs l : List SV} (h : ObjR G w (cs ++ l) B) (hne : cs ≠ []) : l = [] := by
  have : (cs ++ l).length = 1 := by
    generalize cs ++ l = c at h
    cases h <;> rfl
  have h0 : 0 < cs.length := List.length_pos_iff.2 hne
  simp only [List.length_append] at this
  exact List.length_eq_zero_iff.1 (by omega)

/-- What a call leaves: B' and T' tell of variables below a number alone; what has turned names such alone. -/
structure Elder (S S' S1 : St) : Prop where
  n : S'.n = S.n
  md : S'.md = S.md
  gl : S'.gl = S.gl
  nx : S.nx ≤ S'.nx
  B : ∀ b cs, S'.B b = some cs → b < S'.nx ∧ (∃ l, S1.B b = some (cs ++ l)) ∧ (ltS S'.nx cs = true ∨ S.B b = some cs)
  T : ∀ i p, S'.T i = some p → i < S'.nx ∧ S1.T i = some p
  E : ∀ b, S'.B b = some [] → S1.B b = some []

/-- A function that works on the variables of its caller, and leaves none. -/
theorem LCall.elder {f : FuncId} {fn : Func} {c : Code} {ss : List SV} {r : SV} {md : List Nat} (hf : P.funcs[f]? = some fn) (hb : fn.body = some c) (hname : (fn.name == "runtime.NumGoroutine") = false) {n : Nat} (hn : fn.ntmps = n) (hle : ss.length ≤ n) (hfew : n ≤ globalsAt)
    (hk : Keeps S S') (hr0 : SV.lt S'.nx r = true)
    (h : CS P c (startE S.gl ss) { S with n := n, md := md } (fun ex E1 S1 => (ex = .normal ∨ ex = .ret) ∧ resS P E1 S1 fn.results.toList = some r ∧ Elder S S' S1)) : LCall P f ss S r S' := by
  refine ⟨⟨fn, hf, hname, by rw [hb]; rfl⟩, hk, fun m0 w0 G E F a w vals hr hF hl hv => calls_of_wp hf hb ?_⟩
  have hsz : (vals.toArray ++ Array.replicate (fn.ntmps - vals.toArray.size) undef).size = n := by simp; omega
  have hstart := start_slots (gl := S.gl) (G := G) (w := w) (ss := ss) (vals := vals) (n := n) (ntmps := n) hl hle hv hr.glob (Array.replicate (fn.ntmps - vals.toArray.size) undef)
  refine h m0 w0 G { tmps := vals.toArray ++ Array.replicate (fn.ntmps - vals.toArray.size) undef, defers := [] } w (fun b => F b ∧ b < S.nx) (fun _ hb => hb.2)
    ⟨hstart, hsz, hfew, hr.box, hr.inj, hr.tip, hr.tinj, hr.tlt, hr.tbox, fun b hb => hr.fresh b (hb.elim (hF b) (fun h => h.1)), hr.new, hr.low, hr.below, rfl, hr.glob, hr.more.keep (Fut.refl _ _) (.refl _) (fun _ _ _ h _ => h) rfl (fun _ _ _ => rfl) rfl (fun b hb => hb.elim (hF b) (fun h => h.1)) rfl⟩ _ ?_
  rintro ex G' E' S1 a' w' ⟨hex, hs, he⟩ hn' hr' f
  obtain ⟨u, hu, hv'⟩ := resS_ok hr' hs
  have hnx : S.nx ≤ S1.nx := hn'.nx
  have hle' : S.nx ≤ S'.nx := hk.nx
  have hbox : ∀ b, S'.nx ≤ b → G.box b = none := fun b hb => (hr.fresh b (hF b (Nat.le_trans hle' hb))).1
  have htip : ∀ b, S'.nx ≤ b → G.tip b = none := fun b hb => (hr.fresh b (hF b (Nat.le_trans hle' hb))).2
  have hobj : ∀ b, S'.nx ≤ b → G.obj b = none := fun b hb => hr.more.ofresh b (hF b (Nat.le_trans hle' hb))
  have fc : Fut G w (G'.cutAt S'.nx) w' := by
    refine ⟨fun b B hb => ?_, fun i B v k cap hi => ?_, f.mark, f.cell, fun b B hb => ?_, f.row, f.map⟩
    · have hlt : b < S'.nx := by
        rcases Nat.lt_or_ge b S'.nx with h1 | h1
        · exact h1
        · rw [hbox b h1] at hb; cases hb
      simp only [Gh.cutAt, if_pos hlt]; exact f.box b B hb
    · have hlt : i < S'.nx := by
        rcases Nat.lt_or_ge i S'.nx with h1 | h1
        · exact h1
        · rw [htip i h1] at hi; cases hi
      simp only [Gh.cutAt, if_pos hlt]; exact f.tip i B v k cap hi
    · have hlt : b < S'.nx := by
        rcases Nat.lt_or_ge b S'.nx with h1 | h1
        · exact h1
        · rw [hobj b h1] at hb; cases hb
      simp only [Gh.cutAt, if_pos hlt]; exact f.obj b B hb
  have cutT : ∀ {i p}, (G'.cutAt S'.nx).tip i = some p → G'.tip i = some p := fun {i p} h => by
    simp only [Gh.cutAt] at h; split at h
    · exact h
    · cases h
  have cutB : ∀ {b p}, (G'.cutAt S'.nx).box b = some p → G'.box b = some p := fun {b p} h => by
    simp only [Gh.cutAt] at h; split at h
    · exact h
    · cases h
  have cutO : ∀ {b p}, (G'.cutAt S'.nx).obj b = some p → G'.obj b = some p := fun {b p} h => by
    simp only [Gh.cutAt] at h; split at h
    · exact h
    · cases h
  have ne : ∀ b, S'.B b ≠ none → S1.B b ≠ none := fun b hb e => by
    obtain ⟨cs, hcs⟩ := Option.ne_none_iff_exists'.1 hb
    obtain ⟨l, hl⟩ := (he.B b cs hcs).2.1
    rw [hl] at e; cases e
  have fin : a'.defers = [] ∧ ∃ v, (results fn a'.tmps).run P w' = .ok v w' ∧ (∃ u G'', Ending.returned v = Ending.returned u ∧ VR G'' w' r u ∧ Rel m0 w0 G'' E S' (fun b => F b ∧ ¬ (S.nx ≤ b ∧ b < S'.nx)) a w' ∧ Fut G w G'' w') := by
    refine ⟨hr'.defers, u, hu, u, G'.cutAt S'.nx, rfl, hv'.cutAt hr0, ⟨fun j s hj => (hr.env j s hj).fut fc, by rw [hk.n]; exact hr.size, by rw [hk.n]; exact hr.few, fun b cs hb ho => ?_, fun b b' B hb hb' g g' => hr'.inj b b' B (ne b hb) (ne b' hb') (cutB g) (cutB g'),
      fun i k sz hi => ?_, fun i i' B v k c v' k' c' g g' => hr'.tinj i i' B v k c v' k' c' (cutT g) (cutT g'), fun i B v k c g => hr'.tlt i B v k c (cutT g), fun i b B v k c hi hb g => hr'.tbox i b B v k c (cutT hi) (ne b hb) (cutB g), fun b hb => ?_, hr'.new, hr'.low, hr'.below, hr.defers, by rw [hk.gl]; exact fun g x hg => hr'.glob g x (by rw [hn'.gl]; exact hg), ⟨fun b cs B hb ho => ?_, fun b b' B hb hb' g g' => hr'.more.oinj b b' B (ne b hb) (ne b' hb') (cutO g) (cutO g'), fun b hb => ?_, fun hg => hr'.more.clean (by rw [hn'.gl]; rw [hk.gl] at hg; exact hg)⟩⟩, fc⟩
    · obtain ⟨hlt, ⟨l, h1⟩, h2⟩ := he.B b cs hb
      have ho' : G'.obj b = none := by simpa only [Gh.cutAt, if_pos hlt] using ho
      obtain ⟨B, us, T, g1, g2, g3, g4, g5, gu0, g6⟩ := hr'.box b _ h1 ho'
      have g6 : ∀ j (h : j < cs.length) (h' : j < us.size), (cs[j]).cell = true ∧ VR G' w' cs[j] us[j] := fun j h h' => by
        have := g6 j (by simp; omega) h'
        rwa [List.getElem_append_left h] at this
      refine ⟨B, us, T, by simp only [Gh.cutAt, if_pos hlt]; exact g1, g2, by simp at g3; omega, g4, g5, gu0, fun j hj hj' => ⟨(g6 j hj hj').1, (g6 j hj hj').2.cutAt ?_⟩⟩
      rcases h2 with h2 | h2
      · exact ltS_get.1 h2 j hj
      · have ho0 : G.obj b = none := by
          cases hx : G.obj b with
          | none => rfl
          | some X => rw [f.obj b X hx] at ho'; cases ho'
        obtain ⟨B0, us0, T0, k1, k2, k3, k4, k5, ku0, k6⟩ := hr.box b cs h2 ho0
        exact (k6 j hj (by omega)).2.lt hbox htip hobj
    · obtain ⟨hlt, h1⟩ := he.T i _ hi
      obtain ⟨B, v, us, T, cap, fr, g1, g2⟩ := hr'.tip i k sz h1
      exact ⟨B, v, us, T, cap, fr, by simp only [Gh.cutAt, if_pos hlt]; exact g1, g2⟩
    · rcases Nat.lt_or_ge b S.nx with h1 | h1
      · have h2 : b < S'.nx := by omega
        simp only [Gh.cutAt, if_pos h2]; exact hr'.fresh b (.inr ⟨hb.1, h1⟩)
      · have : ¬ b < S'.nx := by have := hb.2; omega
        simp only [Gh.cutAt, if_neg this, and_self]
    · obtain ⟨hlt, ⟨l, h1⟩, h2⟩ := he.B b cs hb
      have ho' := cutO ho
      obtain ⟨m1, m2, m3, m4⟩ := hr'.more.obj b _ B h1 ho'
      have hcs : cs ≠ [] := fun e => by
        subst e
        have := he.E b hb
        obtain ⟨_, _, _, m5⟩ := hr'.more.obj b _ B this ho'
        cases m5
      have hl := m4.single hcs
      subst hl
      rw [List.append_nil] at m4
      refine ⟨by simp only [Gh.cutAt, if_pos hlt]; exact m1, m2, m3, m4.cutAt ?_⟩
      rcases h2 with h2 | h2
      · exact h2
      · cases hx : G.obj b with
        | none =>
          obtain ⟨B0, us0, T0, k1, k2, k3, k4, k5, ku0, k6⟩ := hr.box b cs h2 hx
          exfalso
          cases m4 with
          | mp es _ _ _ _ _ _ => have := (k6 0 (by simp) (by simp at k3; omega)).2; cases this
          | it _ _ => have := (k6 0 (by simp) (by simp at k3; omega)).2; cases this
        | some X =>
          obtain ⟨_, _, _, k4⟩ := hr.more.obj b cs X h2 hx
          exact k4.lt hbox htip hobj
    · rcases Nat.lt_or_ge b S.nx with h1 | h1
      · have h2 : b < S'.nx := by omega
        simp only [Gh.cutAt, if_pos h2]; exact hr'.more.ofresh b (.inr ⟨hb.1, h1⟩)
      · have : ¬ b < S'.nx := by have := hb.2; omega
        simp only [Gh.cutAt, if_neg this]
  rcases hex with rfl | rfl
  · exact fin
  · exact fin
def FinE (P : Program) (rs : List ResultVar) (r : SV) (S S' : St) : Exit → Env → St → Prop := fun ex E S1 => (ex = .normal ∨ ex = .ret) ∧ resS P E S1 rs = some r ∧ Elder S S' S1
@[simp] theorem FinE_ret {rs : List ResultVar} {r : SV} {S0 : St} : FinE P rs r S0 S' .ret E S = (resS P E S rs = some r ∧ Elder S0 S' S) := by
  simp only [FinE, reduceCtorEq, or_true, true_and]
@[simp] theorem FinE_normal {rs : List ResultVar} {r : SV} {S0 : St} : FinE P rs r S0 S' .normal E S = (resS P E S rs = some r ∧ Elder S0 S' S) := by
  simp only [FinE, or_false, reduceCtorEq, true_and]
theorem LCall.byE {md : List Nat} {f : FuncId} {fn : Func} {c : Code} {ss : List SV} {r : SV} (hk : Keeps S S') (hr0 : SV.lt S'.nx r = true) (hf : P.funcs[f]? = some fn) (hb : fn.body = some c) (hname : (fn.name == "runtime.NumGoroutine") = false) {n : Nat} (hn : fn.ntmps = n) (hle : ss.length ≤ n) (hfew : n ≤ globalsAt) {rs : List ResultVar} (hrs : fn.results.toList = rs)
    (h : @VCt true P ⟨c⟩ (startE S.gl ss) { S with n := n, md := md } (FinE P rs r S S')) : LCall P f ss S r S' := LCall.elder (md := md) hf hb hname hn hle hfew hk hr0 (by rw [hrs]; exact VC.sound h)

/-! ### state and slots -/
@[simp] theorem upd_app {α : Type} (f : Nat → Option α) (k : Nat) (x : α) (i : Nat) : upd f k x i = if i = k then some x else f i := (rfl)
@[simp] theorem adv_n (k : Nat) : (S.adv k).n = S.n := (rfl)
@[simp] theorem adv_B (k : Nat) : (S.adv k).B = S.B := (rfl)
@[simp] theorem adv_T (k : Nat) : (S.adv k).T = S.T := (rfl)
@[simp] theorem adv_nx (k : Nat) : (S.adv k).nx = S.nx + k := (rfl)
@[simp] theorem adv_md (k : Nat) : (S.adv k).md = S.md := (rfl)
@[simp] theorem adv_gl (k : Nat) : (S.adv k).gl = S.gl := (rfl)
@[simp] theorem new_n (id : Nat) (cs : List SV) : (S.new id cs).n = S.n := (rfl)
@[simp] theorem new_B (id : Nat) (cs : List SV) : (S.new id cs).B = upd S.B id cs := (rfl)
@[simp] theorem new_T (id : Nat) (cs : List SV) : (S.new id cs).T = S.T := (rfl)
@[simp] theorem new_nx (id : Nat) (cs : List SV) : (S.new id cs).nx = S.nx := (rfl)
@[simp] theorem new_md (id : Nat) (cs : List SV) : (S.new id cs).md = S.md := (rfl)
@[simp] theorem new_gl (id : Nat) (cs : List SV) : (S.new id cs).gl = S.gl := (rfl)
@[simp] theorem set_n (id : Nat) (cs : List SV) : (S.set id cs).n = S.n := (rfl)
@[simp] theorem set_B (id : Nat) (cs : List SV) : (S.set id cs).B = upd S.B id cs := (rfl)
@[simp] theorem set_T (id : Nat) (cs : List SV) : (S.set id cs).T = S.T := (rfl)
@[simp] theorem set_nx (id : Nat) (cs : List SV) : (S.set id cs).nx = S.nx := (rfl)
@[simp] theorem set_md (id : Nat) (cs : List SV) : (S.set id cs).md = S.md := (rfl)
@[simp] theorem set_gl (id : Nat) (cs : List SV) : (S.set id cs).gl = S.gl := (rfl)
@[simp] theorem tipTo_n (i k sz : Nat) : (S.tipTo i k sz).n = S.n := (rfl)
@[simp] theorem tipTo_B (i k sz : Nat) : (S.tipTo i k sz).B = S.B := (rfl)
@[simp] theorem tipTo_T (i k sz : Nat) : (S.tipTo i k sz).T = upd S.T i (k, sz) := (rfl)
@[simp] theorem tipTo_nx (i k sz : Nat) : (S.tipTo i k sz).nx = S.nx := (rfl)
@[simp] theorem tipTo_md (i k sz : Nat) : (S.tipTo i k sz).md = S.md := (rfl)
@[simp] theorem tipTo_gl (i k sz : Nat) : (S.tipTo i k sz).gl = S.gl := (rfl)
@[simp] theorem mov_n (b id : Nat) (cs : List SV) : (S.mov b id cs).n = S.n := (rfl)
@[simp] theorem mov_B (b id : Nat) (cs : List SV) : (S.mov b id cs).B = upd (fun x => if x = b then none else S.B x) id cs := (rfl)
@[simp] theorem mov_T (b id : Nat) (cs : List SV) : (S.mov b id cs).T = S.T := (rfl)
@[simp] theorem mov_nx (b id : Nat) (cs : List SV) : (S.mov b id cs).nx = S.nx := (rfl)
@[simp] theorem mov_md (b id : Nat) (cs : List SV) : (S.mov b id cs).md = S.md := (rfl)
@[simp] theorem mov_gl (b id : Nat) (cs : List SV) : (S.mov b id cs).gl = S.gl := (rfl)
@[simp] theorem app_mov (id b : Nat) (cs : List SV) : S.app id (.mov b cs) = S.mov b id cs := (rfl)
@[simp] theorem app_no (id : Nat) : S.app id .no = S := (rfl)
@[simp] theorem app_new (id : Nat) (cs : List SV) : S.app id (.new cs) = S.new id cs := (rfl)
@[simp] theorem app_set (id b : Nat) (cs : List SV) : S.app id (.set b cs) = S.set b cs := (rfl)
@[simp] theorem app_tip (id i k sz : Nat) : S.app id (.tip i k sz) = S.tipTo i k sz := (rfl)
@[simp] theorem startS_n (gl : Nat → Option D) (md : List Nat) (n : Nat) : (startS gl md n).n = n := (rfl)
@[simp] theorem startS_B (gl : Nat → Option D) (md : List Nat) (n : Nat) : (startS gl md n).B = fun _ => none := (rfl)
@[simp] theorem startS_T (gl : Nat → Option D) (md : List Nat) (n : Nat) : (startS gl md n).T = fun _ => none := (rfl)
@[simp] theorem startS_nx (gl : Nat → Option D) (md : List Nat) (n : Nat) : (startS gl md n).nx = 0 := (rfl)
@[simp] theorem startS_md (gl : Nat → Option D) (md : List Nat) (n : Nat) : (startS gl md n).md = md := (rfl)
@[simp] theorem startS_gl (gl : Nat → Option D) (md : List Nat) (n : Nat) : (startS gl md n).gl = gl := (rfl)
@[simp] theorem put_some (E : Env) (k : Nat) (s : SV) : Env.put E (some k) s = upd E k s := (rfl)
@[simp] theorem put_none (E : Env) (s : SV) : Env.put E none s = E := (rfl)
@[simp] theorem startE_app (gl : Nat → Option D) (args : List SV) (k : Nat) : startE gl args k = if k < 1048576 then args[k]? else (gl (k - 1048576)).map .d := (rfl)
@[simp] theorem evalO_tmp (E : Env) (t : Nat) : evalO E (.tmp t) = if t < 1048576 then E t else none := (rfl)
@[simp] theorem evalO_const (E : Env) (c : Value) : evalO E (.const c) = ofConst c := (rfl)
@[simp] theorem evalO_func (E : Env) (f : FuncId) : evalO E (.func f) = some (.fn (.func f) [] []) := (rfl)
@[simp] theorem evalO_global (E : Env) (g : Nat) : evalO E (.global g) = E (1048576 + g) := (rfl)
@[simp] theorem ofConst_bool (b : Bool) : ofConst (.bool b) = some (.d (.v (.bool b))) := (rfl)
@[simp] theorem ofConst_int (k : IntKind) (n : Int) : ofConst (.int k n) = some (.d (.v (.int k n))) := (rfl)
@[simp] theorem ofConst_string (s : ByteArray) : ofConst (.string s) = some (.d (.v (.string s))) := (rfl)
@[simp] theorem ofConst_nilS : ofConst (.slice none 0 0) = some (.fl [] 0) := (rfl)
@[simp] theorem ofConst_nilI : ofConst .nilIface = some (.d (.v .nilIface)) := (rfl)
@[simp] theorem ofConst_nilP : ofConst (.pointer none) = some (.d (.v (.pointer none))) := (rfl)
@[simp] theorem ofConst_nilF : ofConst .nilFunc = some (.d (.v .nilFunc)) := (rfl)
@[simp] theorem ofConst_nilM : ofConst (.map none) = some (.d (.v (.map none))) := (rfl)
@[simp] theorem ofConst_undef : ofConst (.tuple #[]) = some (.d (.v (.tuple #[]))) := (rfl)
@[simp] theorem dstOk_some (k n : Nat) : dstOk (some k) n = decide (k < n) := (rfl)
@[simp] theorem dstOk_none (n : Nat) : dstOk none n = true := (rfl)

/-! ### the operations, each by its name -/
section
variable {id : Nat} {d : Option Nat} {ty : TypeId} {p : String} {af : Array Edge} {g : Option (Nat × Bool)} {dr : Bool} {AA : Ar} {bb ii : Nat} {ll : List Oper} {QQ : Env → St → Prop}
@[simp] theorem SeeT_move (x : Operand) : @SeeT true dr P AA bb ii ⟨⟨d, .move x, ty, p, af, g⟩⟩ ⟨ll⟩ E S QQ = OpT ((evalO E x).map fun s => (s, .no)) (fun t s e => @VLt t dr P AA bb (ii + 1) ⟨ll⟩ (E.put d s) (S.app (bb + ii) e) QQ) := SeeT_op_ rfl
@[simp] theorem SeeT_assign (x : Operand) : @SeeT true dr P AA bb ii ⟨⟨d, .assign x, ty, p, af, g⟩⟩ ⟨ll⟩ E S QQ = OpT ((evalO E x).map fun s => (s, .no)) (fun t s e => @VLt t dr P AA bb (ii + 1) ⟨ll⟩ (E.put d s) (S.app (bb + ii) e) QQ) := SeeT_op_ rfl
def pick3 : Option SV → Option SV → Option SV → Option (SV × Eff)
  | some (.d (.v (.bool b))), some s, some t => some (if b = true then s else t, .no)
  | _, _, _ => none
@[simp] theorem pick3_some (b : Bool) (s t : SV) : pick3 (some (.d (.v (.bool b)))) (some s) (some t) = some (if b = true then s else t, .no) := (rfl)
@[simp] theorem SeeT_pick (c x y : Operand) : @SeeT true dr P AA bb ii ⟨⟨d, .pick c x y, ty, p, af, g⟩⟩ ⟨ll⟩ E S QQ = OpT (pick3 (evalO E c) (evalO E x) (evalO E y)) (fun t s e => @VLt t dr P AA bb (ii + 1) ⟨ll⟩ (E.put d s) (S.app (bb + ii) e) QQ) := SeeT_op_ rfl
@[simp] theorem SeeT_alloc (T : TypeId) : @SeeT true dr P AA bb ii ⟨⟨d, .alloc T, ty, p, af, g⟩⟩ ⟨ll⟩ E S QQ = OpT ((zeroCellsOf P T).map fun cs => (.op (bb + ii) 0, .new cs)) (fun t s e => @VLt t dr P AA bb (ii + 1) ⟨ll⟩ (E.put d s) (S.app (bb + ii) e) QQ) := SeeT_op_ rfl
def boxE (id : Nat) : Option SV → Option (SV × Eff)
  | some s => if s.one = true then some (.op id 0, .new s.cells) else none
  | none => none
@[simp] theorem boxE_some (s : SV) : boxE id (some s) = if s.one = true then some (.op id 0, .new s.cells) else none := (rfl)
@[simp] theorem SeeT_box (T : TypeId) (x : Operand) : @SeeT true dr P AA bb ii ⟨⟨d, .box T x, ty, p, af, g⟩⟩ ⟨ll⟩ E S QQ = OpT (boxE (bb + ii) (evalO E x)) (fun t s e => @VLt t dr P AA bb (ii + 1) ⟨ll⟩ (E.put d s) (S.app (bb + ii) e) QQ) := SeeT_op_ rfl
def buildE (P : Program) (T : TypeId) : Option (List SV) → Option (List (Nat × List SV)) → Bool → Option (SV × Eff)
  | some zs, some l, true => (fillL (placeOf P T) zs l).map fun cs => (.ag cs, .no)
  | _, _, _ => none
@[simp] theorem buildE_some (T : TypeId) (zs : List SV) (l : List (Nat × List SV)) : buildE P T (some zs) (some l) true = (fillL (placeOf P T) zs l).map fun cs => (.ag cs, .no) := (rfl)
@[simp] theorem SeeT_build (T : TypeId) (ps : Array (Nat × Operand)) : @SeeT true dr P AA bb ii ⟨⟨d, .build T ps, ty, p, af, g⟩⟩ ⟨ll⟩ E S QQ = OpT (buildE P T (zeroCellsOf P T) (partsS E ps.toList) (sized P T)) (fun t s e => @VLt t dr P AA bb (ii + 1) ⟨ll⟩ (E.put d s) (S.app (bb + ii) e) QQ) := SeeT_op_ rfl
def buildSliceE (n : Nat) : Option (List D × Nat) → Option (List (Nat × List D)) → Option (SV × Eff)
  | some (zs, sz), some l => if n * sz ≤ 16777216 then (fillL (fun i => some (i * sz, sz)) ((List.range (n * sz)).map fun j => zs.getD (j % sz) default) l).map fun cs => (.fl cs n, .no) else none
  | _, _ => none
@[simp] theorem buildSliceE_some (n : Nat) (zs : List D) (sz : Nat) (l : List (Nat × List D)) : buildSliceE n (some (zs, sz)) (some l) = if n * sz ≤ 16777216 then (fillL (fun i => some (i * sz, sz)) ((List.range (n * sz)).map fun j => zs.getD (j % sz) default) l).map fun cs => (.fl cs n, .no) else none := (rfl)
/-- A row that is made whole: data, or one that may be cut. -/
def RowT (c : Bool) (id n : Nat) (dr : Bool) [A : Ar] (K : Bool → SV → Eff → Prop) (zs : Option (List D × Nat)) (l : Option (List (Nat × List D))) : Prop :=
  match c with | true => @TxtT dr A = true ∧ rowX id n (HidK K) zs l | false => OpT (buildSliceE n zs l) K
@[simp] theorem RowT_false (id n : Nat) (A : Ar) (K : Bool → SV → Eff → Prop) (zs : Option (List D × Nat)) (l : Option (List (Nat × List D))) : @RowT false id n dr A K zs l = OpT (buildSliceE n zs l) K := (rfl)
@[simp] theorem RowT_true (id n : Nat) (A : Ar) (K : Bool → SV → Eff → Prop) (zs : List D) (sz : Nat) (l : List (Nat × List D)) : @RowT true id n false A K (some (zs, sz)) (some l) = (n * sz ≤ 16777216 ∧ ∃ cs, fillL (fun i => some (i * sz, sz)) ((List.range (n * sz)).map fun j => zs.getD (j % sz) default) l = some cs ∧ n * sz ≤ cs.length ∧ K true (.sk id n sz) (.new (cs.map .d))) := by
  show (@TxtT false A = true ∧ _) = _
  rw [TxtT_text]
  simp only [true_and]
  rfl
@[simp] theorem SeeT_buildSlice (T n : Nat) (ps : Array (Nat × Operand)) : @SeeT true dr P AA bb ii ⟨⟨d, .buildSlice T n ps, ty, p, af, g⟩⟩ ⟨ll⟩ E S QQ = @RowT (d.any fun d => S.md.contains d) (bb + ii) n dr AA (fun t s e => @VLt t dr P AA bb (ii + 1) ⟨ll⟩ (E.put d s) (S.app (bb + ii) e) QQ) (zerosOf P T) (partsD E ps.toList) := by
  rw [SeeT_x_ rfl]
  cases h : (d.any fun d => S.md.contains d) with
  | false =>
    have e1 : ∀ K, evalX P E S (bb + ii) ⟨d, .buildSlice T n ps, ty, p, af, g⟩ K = False := fun K => by
      show ((d.any fun d => S.md.contains d) = true ∧ _) = _
      rw [h]; simp
    have e2 : evalOp P E S (bb + ii) ⟨d, .buildSlice T n ps, ty, p, af, g⟩ = buildSliceE n (zerosOf P T) (partsD E ps.toList) := by
      show (match zerosOf P T, partsD E ps.toList with | some (zs, sz), some l => if n * sz ≤ 16777216 then (fillL (fun i => some (i * sz, sz)) ((List.range (n * sz)).map fun j => zs.getD (j % sz) default) l).bind (rowE S.md d n) else none | _, _ => none) = _
      have e3 : rowE S.md d n = fun cs => some (.fl cs n, .no) := by
        funext cs
        unfold rowE
        rw [if_neg (by rw [h]; simp)]
      rw [e3]
      unfold buildSliceE
      rcases zerosOf P T with _ | ⟨zs, sz⟩ <;> rcases partsD E ps.toList with _ | l
      · rfl
      · rfl
      · rfl
      · simp only
        split
        · generalize fillL _ _ _ = r
          cases r <;> rfl
        · rfl
    rw [e1, e2, and_false, or_false, RowT_false]
  | true =>
    have e2 : evalOp P E S (bb + ii) ⟨d, .buildSlice T n ps, ty, p, af, g⟩ = none := by
      show (match zerosOf P T, partsD E ps.toList with | some (zs, sz), some l => if n * sz ≤ 16777216 then (fillL (fun i => some (i * sz, sz)) ((List.range (n * sz)).map fun j => zs.getD (j % sz) default) l).bind (rowE S.md d n) else none | _, _ => none) = _
      have e3 : rowE S.md d n = fun cs => none := by
        funext cs
        unfold rowE
        rw [if_pos h]
      rw [e3]
      rcases zerosOf P T with _ | ⟨zs, sz⟩ <;> rcases partsD E ps.toList with _ | l
      · rfl
      · rfl
      · rfl
      · simp only
        split
        · generalize fillL _ _ _ = r
          cases r <;> rfl
        · rfl
    rw [e2]
    show (False ∨ (@TxtT dr AA = true ∧ ((d.any fun d => S.md.contains d) = true ∧ rowX _ _ _ _ _))) = (@TxtT dr AA = true ∧ rowX _ _ _ _ _)
    rw [h]
    simp only [false_or, true_and]
def loadE (P : Program) (T : TypeId) (B : Nat → Option (List SV)) : Option SV → Option (SV × Eff)
  | some (.d (.pp cs off)) => (loadD P T cs off).map fun s => (.d s, .no)
  | some (.op b off) => match B b with
    | some cs => (loadS P T cs off).map fun s => (s, .no)
    | none => none
  | _ => none
@[simp] theorem loadE_pp (T : TypeId) (B : Nat → Option (List SV)) (cs : List D) (off : Nat) : loadE P T B (some (.d (.pp cs off))) = (loadD P T cs off).map fun s => (.d s, .no) := (rfl)
def loadB (P : Program) (T : TypeId) (off : Nat) : Option (List SV) → Option (SV × Eff)
  | some cs => (loadS P T cs off).map fun s => (s, .no)
  | none => none
@[simp] theorem loadB_some (T off : Nat) (cs : List SV) : loadB P T off (some cs) = (loadS P T cs off).map fun s => (s, .no) := (rfl)
@[simp] theorem loadE_op (T : TypeId) (B : Nat → Option (List SV)) (b off : Nat) : loadE P T B (some (.op b off)) = loadB P T off (B b) := (rfl)
@[simp] theorem SeeT_load (T : TypeId) (x : Operand) : @SeeT true dr P AA bb ii ⟨⟨d, .load T x, ty, p, af, g⟩⟩ ⟨ll⟩ E S QQ = OpT (loadE P T S.B (evalO E x)) (fun t s e => @VLt t dr P AA bb (ii + 1) ⟨ll⟩ (E.put d s) (S.app (bb + ii) e) QQ) := SeeT_op_ rfl
def storeE (B : Nat → Option (List SV)) : Option SV → Option SV → Option Nat → Option (SV × Eff)
  | some (.op b off), some s, some n => match B b with
    | some cs => onlyIf (s.one = true ∧ s.cells.length = n ∧ off + n ≤ cs.length) (.d (.v undef), .set b (cs.take off ++ s.cells ++ cs.drop (off + n)))
    | none => none
  | _, _, _ => none
def storeB (b off n : Nat) (s : SV) : Option (List SV) → Option (SV × Eff)
  | some cs => onlyIf (s.one = true ∧ s.cells.length = n ∧ off + n ≤ cs.length) (.d (.v undef), .set b (cs.take off ++ s.cells ++ cs.drop (off + n)))
  | none => none
@[simp] theorem storeB_some (b off n : Nat) (s : SV) (cs : List SV) : storeB b off n s (some cs) = onlyIf (s.one = true ∧ s.cells.length = n ∧ off + n ≤ cs.length) (.d (.v undef), .set b (cs.take off ++ s.cells ++ cs.drop (off + n))) := (rfl)
@[simp] theorem storeE_some (B : Nat → Option (List SV)) (b off n : Nat) (s : SV) : storeE B (some (.op b off)) (some s) (some n) = storeB b off n s (B b) := (rfl)
@[simp] theorem SeeT_store (T : TypeId) (x y : Operand) : @SeeT true dr P AA bb ii ⟨⟨d, .store T x y, ty, p, af, g⟩⟩ ⟨ll⟩ E S QQ = OpT (storeE S.B (evalO E x) (evalO E y) (szOf P T)) (fun t s e => @VLt t dr P AA bb (ii + 1) ⟨ll⟩ (E.put d s) (S.app (bb + ii) e) QQ) := SeeT_op_ rfl
def nilE : Option SV → Option (SV × Eff)
  | some s => if notNil s = true then some (s, .no) else none
  | none => none
@[simp] theorem nilE_op (b off : Nat) : nilE (some (.op b off)) = some (.op b off, .no) := (rfl)
@[simp] theorem nilE_pp (cs : List D) (off : Nat) : nilE (some (.d (.pp cs off))) = some (.d (.pp cs off), .no) := (rfl)
@[simp] theorem SeeT_nilCheck (x : Operand) : @SeeT true dr P AA bb ii ⟨⟨d, .nilCheck x, ty, p, af, g⟩⟩ ⟨ll⟩ E S QQ = OpT (nilE (evalO E x)) (fun t s e => @VLt t dr P AA bb (ii + 1) ⟨ll⟩ (E.put d s) (S.app (bb + ii) e) QQ) := SeeT_op_ rfl
def binE (P : Program) (op : BinOp) (T : TypeId) : Option SV → Option SV → Option (SV × Eff)
  | some (.d (.v u)), some (.d (.v v)) => (binS P op T u v).map fun r => (.d (.v r), .no)
  | _, _ => none
@[simp] theorem binE_some (op : BinOp) (T : TypeId) (u v : Value) : binE P op T (some (.d (.v u))) (some (.d (.v v))) = (binS P op T u v).map fun r => (.d (.v r), .no) := (rfl)
noncomputable def binE2 (P : Program) (gl : Nat → Option D) (op : BinOp) (T : TypeId) : Option SV → Option SV → Option (SV × Eff)
  | some (.d (.v u)), some (.d (.v v)) => (binS P op T u v).map fun r => (.d (.v r), .no)
  | some s, some t => eqlE P gl op T s t
  | _, _ => none
@[simp] theorem binE2_some (gl : Nat → Option D) (op : BinOp) (T : TypeId) (u v : Value) : binE2 P gl op T (some (.d (.v u))) (some (.d (.v v))) = (binS P op T u v).map fun r => (.d (.v r), .no) := (rfl)
@[simp] theorem binE2_ag (gl : Nat → Option D) (op : BinOp) (T : TypeId) (cs : List SV) (t : SV) : binE2 P gl op T (some (.ag cs)) (some t) = eqlE P gl op T (.ag cs) t := (rfl)
@[simp] theorem binE2_agg (gl : Nat → Option D) (op : BinOp) (T : TypeId) (cs : List D) (t : SV) : binE2 P gl op T (some (.d (.agg cs))) (some t) = eqlE P gl op T (.d (.agg cs)) t := (rfl)
@[simp] theorem SeeT_bin_tmp (op : BinOp) (T T2 : TypeId) (x : Operand) (t : Nat) : @SeeT true dr P AA bb ii ⟨⟨d, .binOp op T x (.tmp t) T2, ty, p, af, g⟩⟩ ⟨ll⟩ E S QQ = OpT (binE2 P S.gl op T (evalO E x) (evalO E (.tmp t))) (fun t s e => @VLt t dr P AA bb (ii + 1) ⟨ll⟩ (E.put d s) (S.app (bb + ii) e) QQ) := SeeT_op_ rfl
/-- A comparison of two that cannot be the same. -/
theorem OpT_apart {op : BinOp} {T : TypeId} {s t : SV} {x y : D} {gl : Nat → Option D} {K : Bool → SV → Eff → Prop} (hop : op = .eql) (hg : gl cleanAt ≠ none) (hs : s.toD = some x) (ht : t.toD = some y) (hT : spanT P T = true) (hx : keyD P T x = true) (hy : keyD P T y = true) (hap : Apart x y) (k : K true (.d (.v (.bool false))) .no) :
    OpT (eqlE P gl op T s t) K := by
  subst hop
  have : eqlE P gl .eql T s t = some (.d (.v (.bool false)), .no) := by
    unfold eqlE
    rw [hs, ht]
    exact @if_pos _ (Classical.propDecidable _) ⟨hg, hT, hx, hy, hap⟩ _ _ _
  rw [this]
  exact k
@[simp] theorem SeeT_bin_int (op : BinOp) (T T2 : TypeId) (x : Operand) (k : IntKind) (n : Int) : @SeeT true dr P AA bb ii ⟨⟨d, .binOp op T x (.const (.int k n)) T2, ty, p, af, g⟩⟩ ⟨ll⟩ E S QQ = OpT (binE P op T (evalO E x) (some (.d (.v (.int k n))))) (fun t s e => @VLt t dr P AA bb (ii + 1) ⟨ll⟩ (E.put d s) (S.app (bb + ii) e) QQ) := SeeT_op_ rfl
@[simp] theorem SeeT_bin_bool (op : BinOp) (T T2 : TypeId) (x : Operand) (b : Bool) : @SeeT true dr P AA bb ii ⟨⟨d, .binOp op T x (.const (.bool b)) T2, ty, p, af, g⟩⟩ ⟨ll⟩ E S QQ = OpT (binE P op T (evalO E x) (some (.d (.v (.bool b))))) (fun t s e => @VLt t dr P AA bb (ii + 1) ⟨ll⟩ (E.put d s) (S.app (bb + ii) e) QQ) := SeeT_op_ rfl
@[simp] theorem SeeT_bin_string (op : BinOp) (T T2 : TypeId) (x : Operand) (s : ByteArray) : @SeeT true dr P AA bb ii ⟨⟨d, .binOp op T x (.const (.string s)) T2, ty, p, af, g⟩⟩ ⟨ll⟩ E S QQ = OpT (binE P op T (evalO E x) (some (.d (.v (.string s))))) (fun t s e => @VLt t dr P AA bb (ii + 1) ⟨ll⟩ (E.put d s) (S.app (bb + ii) e) QQ) := SeeT_op_ rfl
def nilTestE (P : Program) (op : BinOp) (T : TypeId) (c : Value) : Option SV → Option (SV × Eff)
  | some s => (evalNil P op T s c).map fun s => (s, .no)
  | none => none
@[simp] theorem nilTestE_some (op : BinOp) (T : TypeId) (c : Value) (s : SV) : nilTestE P op T c (some s) = (evalNil P op T s c).map fun s => (s, .no) := (rfl)
@[simp] theorem SeeT_bin_nilI (op : BinOp) (T T2 : TypeId) (x : Operand) : @SeeT true dr P AA bb ii ⟨⟨d, .binOp op T x (.const .nilIface) T2, ty, p, af, g⟩⟩ ⟨ll⟩ E S QQ = OpT (nilTestE P op T .nilIface (evalO E x)) (fun t s e => @VLt t dr P AA bb (ii + 1) ⟨ll⟩ (E.put d s) (S.app (bb + ii) e) QQ) := SeeT_op_ rfl
@[simp] theorem SeeT_bin_nilP (op : BinOp) (T T2 : TypeId) (x : Operand) : @SeeT true dr P AA bb ii ⟨⟨d, .binOp op T x (.const (.pointer none)) T2, ty, p, af, g⟩⟩ ⟨ll⟩ E S QQ = OpT (nilTestE P op T (.pointer none) (evalO E x)) (fun t s e => @VLt t dr P AA bb (ii + 1) ⟨ll⟩ (E.put d s) (S.app (bb + ii) e) QQ) := SeeT_op_ rfl
def unE (op : UnOp) : Option SV → Option (SV × Eff)
  | some (.d (.v u)) => (unS op u).map fun r => (.d (.v r), .no)
  | _ => none
@[simp] theorem unE_some (op : UnOp) (u : Value) : unE op (some (.d (.v u))) = (unS op u).map fun r => (.d (.v r), .no) := (rfl)
@[simp] theorem SeeT_un (op : UnOp) (T : TypeId) (x : Operand) : @SeeT true dr P AA bb ii ⟨⟨d, .unOp op T x, ty, p, af, g⟩⟩ ⟨ll⟩ E S QQ = OpT (unE op (evalO E x)) (fun t s e => @VLt t dr P AA bb (ii + 1) ⟨ll⟩ (E.put d s) (S.app (bb + ii) e) QQ) := SeeT_op_ rfl
def convE (P : Program) (id : Nat) (T U : TypeId) : Option SV → Option (SV × Eff)
  | some s => evalConv P id T U s
  | none => none
@[simp] theorem convE_some (T U : TypeId) (s : SV) : convE P id T U (some s) = evalConv P id T U s := (rfl)
@[simp] theorem SeeT_convert (T U : TypeId) (x : Operand) : @SeeT true dr P AA bb ii ⟨⟨d, .convert T U x, ty, p, af, g⟩⟩ ⟨ll⟩ E S QQ = OpT (convE P (bb + ii) T U (evalO E x)) (fun t s e => @VLt t dr P AA bb (ii + 1) ⟨ll⟩ (E.put d s) (S.app (bb + ii) e) QQ) := SeeT_op_ rfl
def makeE (P : Program) (S : St) (id : Nat) (d : Option Nat) (T : TypeId) : Option SV → Option SV → Option (SV × Eff)
  | some s, some t => evalMake P S id d T s t
  | _, _ => none
@[simp] theorem makeE_some (T : TypeId) (s t : SV) : makeE P S id d T (some s) (some t) = evalMake P S id d T s t := (rfl)
@[simp] theorem SeeT_makeSlice (T : TypeId) (x y : Operand) : @SeeT true dr P AA bb ii ⟨⟨d, .makeSlice T x y, ty, p, af, g⟩⟩ ⟨ll⟩ E S QQ = OpT (makeE P S (bb + ii) d T (evalO E x) (evalO E y)) (fun t s e => @VLt t dr P AA bb (ii + 1) ⟨ll⟩ (E.put d s) (S.app (bb + ii) e) QQ) := SeeT_op_ rfl
def sliceE (P : Program) (E : Env) (S : St) (T : TypeId) (lo hi : Option Operand) : Option SV → Option (SV × Eff)
  | some s => (evalSlice P E S T s lo hi).map fun s => (s, .no)
  | none => none
@[simp] theorem sliceE_some (T : TypeId) (lo hi : Option Operand) (s : SV) : sliceE P E S T lo hi (some s) = (evalSlice P E S T s lo hi).map fun s => (s, .no) := (rfl)
@[simp] theorem SeeT_slice (T : TypeId) (x : Operand) (lo hi : Option Operand) : @SeeT true dr P AA bb ii ⟨⟨d, .slice T x lo hi none, ty, p, af, g⟩⟩ ⟨ll⟩ E S QQ = OpT (sliceE P E S T lo hi (evalO E x)) (fun t s e => @VLt t dr P AA bb (ii + 1) ⟨ll⟩ (E.put d s) (S.app (bb + ii) e) QQ) := SeeT_op_ rfl
def fieldE (P : Program) : Option SV → Option (TypeId × Nat) → Option (SV × Eff)
  | some (.ag cs), some (t, off) => (loadS P t cs off).map fun s => (s, .no)
  | some (.d (.agg cs)), some (t, off) => (loadD P t cs off).map fun s => (.d s, .no)
  | _, _ => none
@[simp] theorem fieldE_ag (cs : List SV) (t off : Nat) : fieldE P (some (.ag cs)) (some (t, off)) = (loadS P t cs off).map fun s => (s, .no) := (rfl)
@[simp] theorem fieldE_agg (cs : List D) (t off : Nat) : fieldE P (some (.d (.agg cs))) (some (t, off)) = (loadD P t cs off).map fun s => (.d s, .no) := (rfl)
@[simp] theorem SeeT_field (T : TypeId) (x : Operand) (i : Nat) : @SeeT true dr P AA bb ii ⟨⟨d, .field T x i, ty, p, af, g⟩⟩ ⟨ll⟩ E S QQ = OpT (fieldE P (evalO E x) (fieldTy P T i)) (fun t s e => @VLt t dr P AA bb (ii + 1) ⟨ll⟩ (E.put d s) (S.app (bb + ii) e) QQ) := SeeT_op_ rfl
def fieldAddrE : Option SV → Option Nat → Option (SV × Eff)
  | some (.d (.pp cs off)), some n => some (.d (.pp cs (off + n)), .no)
  | some (.op b off), some n => some (.op b (off + n), .no)
  | _, _ => none
@[simp] theorem fieldAddrE_pp (cs : List D) (off n : Nat) : fieldAddrE (some (.d (.pp cs off))) (some n) = some (.d (.pp cs (off + n)), .no) := (rfl)
@[simp] theorem fieldAddrE_op (b off n : Nat) : fieldAddrE (some (.op b off)) (some n) = some (.op b (off + n), .no) := (rfl)
@[simp] theorem SeeT_fieldAddr (T : TypeId) (x : Operand) (i : Nat) : @SeeT true dr P AA bb ii ⟨⟨d, .fieldAddr T x i, ty, p, af, g⟩⟩ ⟨ll⟩ E S QQ = OpT (fieldAddrE (evalO E x) (fieldOf P T i)) (fun t s e => @VLt t dr P AA bb (ii + 1) ⟨ll⟩ (E.put d s) (S.app (bb + ii) e) QQ) := SeeT_op_ rfl
def indexAddrE (P : Program) (T : TypeId) : Option SV → Option SV → Option (SV × Eff)
  | some s, some (.d (.v (.int _ i))) => (evalIndexAddr P T s i).map fun s => (s, .no)
  | _, _ => none
@[simp] theorem indexAddrE_some (T : TypeId) (s : SV) (k : IntKind) (i : Int) : indexAddrE P T (some s) (some (.d (.v (.int k i)))) = (evalIndexAddr P T s i).map fun s => (s, .no) := (rfl)
@[simp] theorem SeeT_indexAddr (T : TypeId) (x y : Operand) : @SeeT true dr P AA bb ii ⟨⟨d, .indexAddr T x y, ty, p, af, g⟩⟩ ⟨ll⟩ E S QQ = OpT (indexAddrE P T (evalO E x) (evalO E y)) (fun t s e => @VLt t dr P AA bb (ii + 1) ⟨ll⟩ (E.put d s) (S.app (bb + ii) e) QQ) := SeeT_op_ rfl
/-- Byte i of a text. -/
def byteI (s : ByteArray) (i : Nat) : Int := ((s.data.toList.getD i 0).toNat : Int)
def indexE : Option SV → Option SV → Bool → Option (SV × Eff)
  | some (.d (.v (.string s))), some (.d (.v (.int _ i))), true => onlyIf (0 ≤ i ∧ i < s.size) (.d (.v (.int .u8 (s.data.toList.getD i.toNat 0).toNat)), .no)
  | _, _, _ => none
@[simp] theorem indexE_some (s : ByteArray) (k : IntKind) (i : Int) : indexE (some (.d (.v (.string s)))) (some (.d (.v (.int k i)))) true = onlyIf (0 ≤ i ∧ i < s.size) (.d (.v (.int .u8 (byteI s i.toNat))), .no) := (rfl)
@[simp] theorem SeeT_index (T : TypeId) (x y : Operand) : @SeeT true dr P AA bb ii ⟨⟨d, .index T x y, ty, p, af, g⟩⟩ ⟨ll⟩ E S QQ = OpT (indexE (evalO E x) (evalO E y) (isString P T)) (fun t s e => @VLt t dr P AA bb (ii + 1) ⟨ll⟩ (E.put d s) (S.app (bb + ii) e) QQ) := SeeT_op_ rfl
def mkIfcE (T : TypeId) : Option SV → Option Bool → Option (SV × Eff)
  | some s, some false => some (mkIfc T s, .no)
  | _, _ => none
@[simp] theorem mkIfcE_some (T : TypeId) (s : SV) : mkIfcE T (some s) (some false) = some (mkIfc T s, .no) := (rfl)
@[simp] theorem SeeT_makeInterface (T : TypeId) (x : Operand) : @SeeT true dr P AA bb ii ⟨⟨d, .makeInterface T x, ty, p, af, g⟩⟩ ⟨ll⟩ E S QQ = OpT (mkIfcE T (evalO E x) (isIface P T)) (fun t s e => @VLt t dr P AA bb (ii + 1) ⟨ll⟩ (E.put d s) (S.app (bb + ii) e) QQ) := SeeT_op_ rfl
def assertE (P : Program) (A : TypeId) (ok : Bool) : Option SV → Option (SV × Eff)
  | some s => (evalAssert P A ok s).map fun s => (s, .no)
  | none => none
@[simp] theorem assertE_some (A : TypeId) (ok : Bool) (s : SV) : assertE P A ok (some s) = (evalAssert P A ok s).map fun s => (s, .no) := (rfl)
@[simp] theorem SeeT_typeAssert (x : Operand) (T A : TypeId) (ok : Bool) : @SeeT true dr P AA bb ii ⟨⟨d, .typeAssert x T A ok, ty, p, af, g⟩⟩ ⟨ll⟩ E S QQ = OpT (assertE P A ok (evalO E x)) (fun t s e => @VLt t dr P AA bb (ii + 1) ⟨ll⟩ (E.put d s) (S.app (bb + ii) e) QQ) := SeeT_op_ rfl
def extractE (i : Nat) : Option SV → Option (SV × Eff)
  | some t => (tupS t i).map fun s => (s, .no)
  | none => none
@[simp] theorem extractE_some (i : Nat) (t : SV) : extractE i (some t) = (tupS t i).map fun s => (s, .no) := (rfl)
@[simp] theorem SeeT_extract (x : Operand) (i : Nat) : @SeeT true dr P AA bb ii ⟨⟨d, .extract x i, ty, p, af, g⟩⟩ ⟨ll⟩ E S QQ = OpT (extractE i (evalO E x)) (fun t s e => @VLt t dr P AA bb (ii + 1) ⟨ll⟩ (E.put d s) (S.app (bb + ii) e) QQ) := SeeT_op_ rfl
def lenE (P : Program) (T : TypeId) : Option SV → Option (SV × Eff)
  | some s => (evalLen P s T).map fun s => (s, .no)
  | none => none
@[simp] theorem lenE_some (T : TypeId) (s : SV) : lenE P T (some s) = (evalLen P s T).map fun s => (s, .no) := (rfl)
/-- How many: of a row, a text, a map. -/
def LenT (P : Program) (S : St) (dr : Bool) [A : Ar] (T : TypeId) (K : Bool → SV → Eff → Prop) (s : Option SV) : Prop := OpT (lenE P T s) K ∨ (@TxtT dr A = true ∧ lenX P S T (HidK K) s)
@[simp] theorem LenT_d (A : Ar) (T : TypeId) (K : Bool → SV → Eff → Prop) (x : D) : @LenT P S dr A T K (some (.d x)) = OpT (lenE P T (some (.d x))) K := by simp [LenT, lenX]
@[simp] theorem LenT_fl (A : Ar) (T : TypeId) (K : Bool → SV → Eff → Prop) (cs : List D) (n : Nat) : @LenT P S dr A T K (some (.fl cs n)) = OpT (lenE P T (some (.fl cs n))) K := by simp [LenT, lenX]
@[simp] theorem LenT_tp (A : Ar) (T : TypeId) (K : Bool → SV → Eff → Prop) (i q : Nat) (cs : List D) (n : Nat) : @LenT P S dr A T K (some (.tp i q cs n)) = OpT (lenE P T (some (.tp i q cs n))) K := by simp [LenT, lenX]
@[simp] theorem LenT_os (A : Ar) (T : TypeId) (K : Bool → SV → Eff → Prop) (b off n : Nat) : @LenT P S dr A T K (some (.os b off n)) = OpT (lenE P T (some (.os b off n))) K := by simp [LenT, lenX]
@[simp] theorem LenT_sk (A : Ar) (T : TypeId) (K : Bool → SV → Eff → Prop) (b n sz : Nat) : @LenT P S dr A T K (some (.sk b n sz)) = OpT (lenE P T (some (.sk b n sz))) K := by simp [LenT, lenX]
@[simp] theorem LenT_mv (A : Ar) (T : TypeId) (K : Bool → SV → Eff → Prop) (b : Nat) : @LenT P S false A T K (some (.mv b)) = lenV P T (HidK K) (S.B b) := by
  have : lenE P T (some (.mv b)) = none := rfl
  simp [LenT, lenX, this, OpT, Op1]
@[simp] theorem lenV_some (T : TypeId) (K : SV → Eff → Prop) (ks : List D) (vs : List SV) : lenV P T K (some [.mc ks vs]) = (isMap P T = true ∧ K (.d (.v (.int .i64 ks.length))) .no) := (rfl)
@[simp] theorem SeeT_len (x : Operand) (T : TypeId) : @SeeT true dr P AA bb ii ⟨⟨d, .call { callee := .builtin .len, args := #[x], argTypes := #[T] }, ty, p, af, g⟩⟩ ⟨ll⟩ E S QQ = @LenT P S dr AA T (fun t s e => @VLt t dr P AA bb (ii + 1) ⟨ll⟩ (E.put d s) (S.app (bb + ii) e) QQ) (evalO E x) := SeeT_x_ rfl
@[simp] theorem SeeT_makeFunc (fn : Fn) (xs ys : Array Operand) : @SeeT true dr P AA bb ii ⟨⟨d, .makeFunc fn xs ys, ty, p, af, g⟩⟩ ⟨ll⟩ E S QQ = ArgT (argsS E xs.toList) (fun t as => ArgT (argsS E ys.toList) (fun t bs => @VLt t dr P AA bb (ii + 1) ⟨ll⟩ (E.put d (.fn fn as bs)) (S.app (bb + ii) .no) QQ)) := by
  rw [SeeT_op_ rfl]
  show OpT (match argsS E xs.toList, argsS E ys.toList with | some xs, some ys => some (SV.fn fn xs ys, Eff.no) | _, _ => none) _ = _
  cases argsS E xs.toList with
  | none => simp [OpT, Op1, ArgT, ArgK]
  | some as => cases argsS E ys.toList <;> simp [OpT, Op1, ArgT, ArgK]

/-! ### maps and walks -/
@[simp] theorem SeeT_makeMap (T : TypeId) : @SeeT true false P AA bb ii ⟨⟨d, .makeMap T none, ty, p, af, g⟩⟩ ⟨ll⟩ E S QQ = @VLt true false P AA bb (ii + 1) ⟨ll⟩ (E.put d (.mv (bb + ii))) (S.app (bb + ii) (.new [.mc [] []])) QQ := by
  rw [SeeT_x_ rfl, TxtT_text]
  show (False ∨ (true = true ∧ _)) = _
  simp only [false_or, true_and]
  rfl
@[simp] theorem SeeT_lookup (T : TypeId) (x y : Operand) (ok : Bool) : @SeeT true false P AA bb ii ⟨⟨d, .lookup T x y ok, ty, p, af, g⟩⟩ ⟨ll⟩ E S QQ = lookX P S ok T (HidK (fun t s e => @VLt t false P AA bb (ii + 1) ⟨ll⟩ (E.put d s) (S.app (bb + ii) e) QQ)) (evalO E x) (evalO E y) := by
  rw [SeeT_x_ rfl, TxtT_text]
  show (False ∨ (true = true ∧ lookX _ _ _ _ _ _ _)) = _
  simp only [false_or, true_and]
@[simp] theorem SeeT_mapUpdate (T : TypeId) (x y z : Operand) : @SeeT true false P AA bb ii ⟨⟨d, .mapUpdate T x y z, ty, p, af, g⟩⟩ ⟨ll⟩ E S QQ = updX P S T (HidK (fun t s e => @VLt t false P AA bb (ii + 1) ⟨ll⟩ (E.put d s) (S.app (bb + ii) e) QQ)) (evalO E x) (evalO E y) (evalO E z) := by
  rw [SeeT_x_ rfl, TxtT_text]
  show (False ∨ (true = true ∧ updX _ _ _ _ _ _ _)) = _
  simp only [false_or, true_and]
@[simp] theorem SeeT_mapEntry (T : TypeId) (x y : Operand) : @SeeT true false P AA bb ii ⟨⟨d, .mapEntry T x y, ty, p, af, g⟩⟩ ⟨ll⟩ E S QQ = entX P S T (HidK (fun t s e => @VLt t false P AA bb (ii + 1) ⟨ll⟩ (E.put d s) (S.app (bb + ii) e) QQ)) (evalO E x) (evalO E y) := by
  rw [SeeT_x_ rfl, TxtT_text]
  show (False ∨ (true = true ∧ entX _ _ _ _ _ _)) = _
  simp only [false_or, true_and]
@[simp] theorem SeeT_entryStore (T : TypeId) (x y z : Operand) : @SeeT true false P AA bb ii ⟨⟨d, .entryStore T x y z, ty, p, af, g⟩⟩ ⟨ll⟩ E S QQ = putX S (HidK (fun t s e => @VLt t false P AA bb (ii + 1) ⟨ll⟩ (E.put d s) (S.app (bb + ii) e) QQ)) (evalO E x) (evalO E y) (evalO E z) := by
  rw [SeeT_x_ rfl, TxtT_text]
  show (False ∨ (true = true ∧ putX _ _ _ _ _)) = _
  simp only [false_or, true_and]
@[simp] theorem SeeT_range (T : TypeId) (x : Operand) : @SeeT true false P AA bb ii ⟨⟨d, .range T x, ty, p, af, g⟩⟩ ⟨ll⟩ E S QQ = rangeX P (bb + ii) T (HidK (fun t s e => @VLt t false P AA bb (ii + 1) ⟨ll⟩ (E.put d s) (S.app (bb + ii) e) QQ)) (evalO E x) := by
  rw [SeeT_x_ rfl, TxtT_text]
  show (False ∨ (true = true ∧ rangeX _ _ _ _ _)) = _
  simp only [false_or, true_and]
@[simp] theorem SeeT_next (x : Operand) : @SeeT true false P AA bb ii ⟨⟨d, .next x false, ty, p, af, g⟩⟩ ⟨ll⟩ E S QQ = nextX S (HidK (fun t s e => @VLt t false P AA bb (ii + 1) ⟨ll⟩ (E.put d s) (S.app (bb + ii) e) QQ)) (evalO E x) := by
  rw [SeeT_x_ rfl, TxtT_text]
  show (False ∨ (true = true ∧ nextX _ _ _)) = _
  simp only [false_or, true_and]
@[simp] theorem SeeT_entry (x : Operand) : @SeeT true false P AA bb ii ⟨⟨d, .entry x, ty, p, af, g⟩⟩ ⟨ll⟩ E S QQ = entryX S (HidK (fun t s e => @VLt t false P AA bb (ii + 1) ⟨ll⟩ (E.put d s) (S.app (bb + ii) e) QQ)) (evalO E x) := by
  rw [SeeT_x_ rfl, TxtT_text]
  show (False ∨ (true = true ∧ entryX _ _ _)) = _
  simp only [false_or, true_and]
@[simp] theorem SeeT_copy (x y : Operand) (T T2 : TypeId) : @SeeT true false P AA bb ii ⟨⟨d, .call { callee := .builtin .copy, args := #[x, y], argTypes := #[T, T2] }, ty, p, af, g⟩⟩ ⟨ll⟩ E S QQ = copyX P S T (HidK (fun t s e => @VLt t false P AA bb (ii + 1) ⟨ll⟩ (E.put d s) (S.app (bb + ii) e) QQ)) (evalO E x) (evalO E y) := by
  rw [SeeT_x_ rfl, TxtT_text]
  show (False ∨ (true = true ∧ copyX _ _ _ _ _ _)) = _
  simp only [false_or, true_and]
@[simp] theorem lookX_mp (ok : Bool) (T : TypeId) (K : SV → Eff → Prop) (ks vs : List D) (s : ByteArray) : lookX P S ok T K (some (.d (.mp ks vs))) (some (.d (.v (.string s)))) = ∃ r, lookS P T ks (vs.map .d) s ok = some r ∧ K r .no := (rfl)
@[simp] theorem lookX_nil (ok : Bool) (T : TypeId) (K : SV → Eff → Prop) (s : ByteArray) : lookX P S ok T K (some (.d (.v (.map none)))) (some (.d (.v (.string s)))) = ∃ e r, Sh.mapOf P T = some e ∧ lookR P e none ok = some r ∧ K r .no := (rfl)
@[simp] theorem lookX_mv (ok : Bool) (T : TypeId) (K : SV → Eff → Prop) (b : Nat) (k : SV) : lookX P S ok T K (some (.mv b)) (some k) = lookV P S.gl ok T K (S.B b) k := (rfl)
@[simp] theorem lookV_str (gl : Nat → Option D) (ok : Bool) (T : TypeId) (K : SV → Eff → Prop) (ks : List D) (vs : List SV) (s : ByteArray) : lookV P gl ok T K (some [.mc ks vs]) (.d (.v (.string s))) = ∃ r, lookS P T ks vs s ok = some r ∧ K r .no := (rfl)
theorem lookV_key {gl : Nat → Option D} {ok : Bool} {T : TypeId} {K : Bool → SV → Eff → Prop} {ks : List D} {vs : List SV} {cs : List SV} {x : D} {kt e : TypeId} {z : SV} (hd : (SV.ag cs).toD = some x) (hT : Sh.mapKey P T = some (kt, e)) (hg : gl cleanAt ≠ none) (hk : keyD P kt x = true) (hks : ∀ y ∈ ks, keyD P kt y = true) (hz : lookR P e none ok = some z)
    (k1 : K true z .no) (k2 : ∀ j (hj : j < ks.length) (hv : j < vs.length), ¬ Apart ks[j] x → ∀ r, lookR P e (some vs[j]) ok = some r → K true r .no) : lookV P gl ok T (HidK K) (some [.mc ks vs]) (.ag cs) := ⟨x, kt, e, z, hd, hT, hg, hk, hks, hz, k1, k2⟩
@[simp] theorem updX_mv (T : TypeId) (K : SV → Eff → Prop) (b : Nat) (k v : SV) : updX P S T K (some (.mv b)) (some k) (some v) = updV P S.gl T K b v (S.B b) k := (rfl)
@[simp] theorem updV_str (gl : Nat → Option D) (T : TypeId) (K : SV → Eff → Prop) (b : Nat) (v : SV) (ks : List D) (vs : List SV) (s : ByteArray) : updV P gl T K b v (some [.mc ks vs]) (.d (.v (.string s))) = ∃ e c, Sh.mapOf P T = some e ∧ updK ks vs s v = some c ∧ K (.d (.v undef)) (.set b [c]) := (rfl)
theorem updV_key {gl : Nat → Option D} {T : TypeId} {K : Bool → SV → Eff → Prop} {b : Nat} {v : SV} {ks : List D} {vs : List SV} {cs : List SV} {x : D} {kt e : TypeId} (hd : (SV.ag cs).toD = some x) (hT : Sh.mapKey P T = some (kt, e)) (hg : gl cleanAt ≠ none) (hk : keyD P kt x = true) (hks : ∀ y ∈ ks, keyD P kt y = true)
    (k1 : K true (.d (.v undef)) (.set b [.mc (ks ++ [x]) (vs ++ [v])])) (k2 : ∀ j (hj : j < ks.length), ¬ Apart ks[j] x → K true (.d (.v undef)) (.set b [.mc ks (vs.set j v)])) : updV P gl T (HidK K) b v (some [.mc ks vs]) (.ag cs) := ⟨x, kt, e, hd, hT, hg, hk, hks, k1, k2⟩
@[simp] theorem entX_mv (T : TypeId) (K : SV → Eff → Prop) (b : Nat) (s : ByteArray) : entX P S T K (some (.mv b)) (some (.d (.v (.string s)))) = entV P T K b s (S.B b) := (rfl)
@[simp] theorem entV_some (T : TypeId) (K : SV → Eff → Prop) (b : Nat) (s : ByteArray) (ks : List D) (vs : List SV) : entV P T K b s (some [.mc ks vs]) = ∃ e r c, Sh.mapOf P T = some e ∧ entK P e ks vs s = some (r, c) ∧ K r (.set b [c]) := (rfl)
@[simp] theorem putX_mv (K : SV → Eff → Prop) (b : Nat) (j : Int) (v : SV) : putX S K (some (.mv b)) (some (.d (.v (.int .i64 j)))) (some v) = putV K b j v (S.B b) := (rfl)
@[simp] theorem putV_some (K : SV → Eff → Prop) (b : Nat) (j : Int) (v : SV) (ks : List D) (vs : List SV) : putV K b j v (some [.mc ks vs]) = (0 ≤ j ∧ j.toNat < vs.length ∧ K (.d (.v undef)) (.set b [.mc ks (vs.set j.toNat v)])) := (rfl)
@[simp] theorem rangeX_mp (T : TypeId) (K : SV → Eff → Prop) (ks vs : List D) : rangeX P id T K (some (.d (.mp ks vs))) = (isMap P T = true ∧ K (.iv id) (.new [.ic ks vs []])) := (rfl)
@[simp] theorem nextX_iv (K : SV → Eff → Prop) (b : Nat) : nextX S K (some (.iv b)) = nextV K b (S.B b) := (rfl)
/-- A step of a walk: one that was not met, or all were. -/
theorem nextV.mk {K : Bool → SV → Eff → Prop} {b : Nat} {ks vs : List D} {seen : List Nat} (h : ∀ j (hk : j < ks.length) (hv : j < vs.length), j ∉ seen → K true (.tu [.d (.v (.bool true)), .d ks[j], .d vs[j]]) (.set b [.ic ks vs (seen ++ [j])])) (k : (∀ j, j < ks.length → j ∈ seen) → K true (.tu [.d (.v (.bool false))]) .no) :
    nextV (HidK K) b (some [.ic ks vs seen]) := ⟨h, k⟩
@[simp] theorem entryX_iv (K : SV → Eff → Prop) (b : Nat) : entryX S K (some (.iv b)) = entryV K (S.B b) := (rfl)
def entry2 (K : SV → Eff → Prop) : Option D → Option D → Prop
  | some k, some v => K (.tu [.d k, .d v]) .no
  | _, _ => False
@[simp] theorem entry2_some (K : SV → Eff → Prop) (k v : D) : entry2 K (some k) (some v) = K (.tu [.d k, .d v]) .no := (rfl)
@[simp] theorem entryV_last (K : SV → Eff → Prop) (ks vs : List D) (seen : List Nat) (j : Nat) : entryV K (some [.ic ks vs (seen ++ [j])]) = entry2 K ks[j]? vs[j]? := by
  unfold entryV
  apply propext
  constructor
  · rintro ⟨j', h1, hk, hv, h⟩
    simp at h1
    subst h1
    rw [List.getElem?_eq_getElem hk, List.getElem?_eq_getElem hv]
    exact h
  · intro h
    unfold entry2 at h
    split at h
    · rename_i h1 h2
      obtain ⟨hk, rfl⟩ := List.getElem?_eq_some_iff.1 h1
      obtain ⟨hv, rfl⟩ := List.getElem?_eq_some_iff.1 h2
      exact ⟨j, by simp, hk, hv, h⟩
    · exact h.elim
@[simp] theorem copyX_os (T : TypeId) (K : SV → Eff → Prop) (b off n : Nat) (t : SV) : copyX P S T K (some (.os b off n)) (some t) = copyV P T K b off n (S.B b) (rowS t) (elemOf P T) := (rfl)
@[simp] theorem copyV_some (T : TypeId) (K : SV → Eff → Prop) (b off n : Nat) (cs : List SV) (ds : List D) (m e sz : Nat) : copyV P T K b off n (some cs) (some (ds, m)) (some (e, sz)) = (m ≤ n ∧ off + m * sz ≤ cs.length ∧ ds.length = m * sz ∧ 0 < m * sz ∧ K (.d (.v (.int .i64 m))) (.set b (cs.take off ++ ds.map .d ++ cs.drop (off + m * sz)))) := (rfl)
def appendE (P : Program) (S : St) (id : Nat) (d : Option Nat) (T : TypeId) : Option SV → Option SV → Option (SV × Eff)
  | some s, some t => evalAppend P S id d T s t
  | _, _ => none
@[simp] theorem appendE_some (T : TypeId) (s t : SV) : appendE P S id d T (some s) (some t) = evalAppend P S id d T s t := (rfl)
theorem evalOp_append (x y : Operand) (T : TypeId) : evalOp P E S id ⟨d, .call { callee := .builtin .append, args := #[x, y], argTypes := #[T, T] }, ty, p, af, g⟩ = appendE P S id d T (evalO E x) (evalO E y) := by
  show (match evalO E x, evalO E y with | some s, some t => if T = T then evalAppend P S id d T s t else none | _, _ => none) = _
  unfold appendE
  split <;> simp
@[simp] theorem SeeT_append (x y : Operand) (T : TypeId) : @SeeT true dr P AA bb ii ⟨⟨d, .call { callee := .builtin .append, args := #[x, y], argTypes := #[T, T] }, ty, p, af, g⟩⟩ ⟨ll⟩ E S QQ = OpT (appendE P S (bb + ii) d T (evalO E x) (evalO E y)) (fun t s e => @VLt t dr P AA bb (ii + 1) ⟨ll⟩ (E.put d s) (S.app (bb + ii) e) QQ) := by
  rw [SeeT_op_ rfl, evalOp_append]
end
end
end Go.Sh
