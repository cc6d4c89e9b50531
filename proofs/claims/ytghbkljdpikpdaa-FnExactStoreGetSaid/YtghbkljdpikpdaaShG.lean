/- THE SHADOW, 7: what an operation gives, reckoned; a region's operations as a proposition without machine. Over any program. -/
import Derived.Test.YtghbkljdpikpdaaShF
set_option linter.unusedVariables false
set_option linter.unusedSimpArgs false
namespace Go.Sh
open Go.RowKit (Below)

section
variable {P : Program} {E E' : Env} {S S' : St}

/-- The element type of a slice type, with its size. -/
def elemOf (P : Program) (T : TypeId) : Option (TypeId × Nat) :=
  match P.underlying T with
  | some (.slice e) => match szOf P e with
    | some n => some (e, n)
    | none => none
  | _ => none
/-- The length of an array type, and its elements' size. -/
def arrayOf (P : Program) (T : TypeId) : Option (Nat × Nat) :=
  match P.underlying T with
  | some (.array n e) => match szOf P e with
    | some k => some (n, k)
    | none => none
  | _ => none
/-- The type and the place of a field. -/
def fieldTy (P : Program) (T : TypeId) (i : Nat) : Option (TypeId × Nat) :=
  match P.underlying T with
  | some (.struct fs) => match fs[i]? with
    | some f => some (f.type, f.offset)
    | none => none
  | _ => none
def isString (P : Program) (T : TypeId) : Bool := match P.underlying T with | some .string => true | _ => false
def isSlice (P : Program) (T : TypeId) : Bool := match P.underlying T with | some (.slice _) => true | _ => false
def isIface (P : Program) (T : TypeId) : Option Bool := match P.underlying T with | some (.interface _) => some true | some _ => some false | none => none
def intKindOf (P : Program) (T : TypeId) : Option IntKind := match P.underlying T with | some (.int k) => some k | _ => none
def known (P : Program) (T : TypeId) : Bool := (P.underlying T).isSome


theorem isString_ok {T : TypeId} (h : isString P T = true) : P.underlying T = some .string := by unfold isString at h; split at h <;> simp_all
theorem isSlice_ok {T : TypeId} (h : isSlice P T = true) : ∃ e, P.underlying T = some (.slice e) := by unfold isSlice at h; split at h <;> simp_all
theorem elemOf_ok {T e : TypeId} {sz : Nat} (ha : elemOf P T = some (e, sz)) : P.underlying T = some (.slice e) ∧ szOf P e = some sz := by
  unfold elemOf at ha
  split at ha
  · rename_i e' hu
    split at ha
    · rename_i k hk
      simp only [Option.some.injEq, Prod.mk.injEq] at ha; obtain ⟨rfl, rfl⟩ := ha
      exact ⟨hu, hk⟩
    · cases ha
  · cases ha
theorem arrayOf_ok {T : TypeId} {n sz : Nat} (ha : arrayOf P T = some (n, sz)) : ∃ e, P.underlying T = some (.array n e) ∧ szOf P e = some sz := by
  unfold arrayOf at ha
  split at ha
  · rename_i n' e hu
    split at ha
    · rename_i k hk
      simp only [Option.some.injEq, Prod.mk.injEq] at ha; obtain ⟨rfl, rfl⟩ := ha
      exact ⟨e, hu, hk⟩
    · cases ha
  · cases ha
theorem intKindOf_ok {T : TypeId} {k : IntKind} (h : intKindOf P T = some k) : P.underlying T = some (.int k) := by unfold intKindOf at h; split at h <;> simp_all

/-- A slice type of bytes: its elements' type. -/
def bytesOf (P : Program) (T : TypeId) : Option TypeId :=
  match P.underlying T with
  | some (.slice e) => match P.underlying e with
    | some (.int .u8) => some e
    | _ => none
  | _ => none
theorem bytesOf_ok {T e : TypeId} (h : bytesOf P T = some e) : P.underlying T = some (.slice e) ∧ P.underlying e = some (.int .u8) := by
  unfold bytesOf at h
  split at h
  · rename_i e' hu
    split at h
    · rename_i hb; simp only [Option.some.injEq] at h; subst h; exact ⟨hu, hb⟩
    · cases h
  · cases h

/-- A slice type of which a row is made: an element's cells, their number, its bytes. -/
def makeOf (P : Program) (T : TypeId) : Option (List SV × Nat × Nat) :=
  match P.underlying T with
  | some (.slice e) => match P.info? e with
    | some i => match zeroCellsOf P e with
      | some zs => if zs.length = i.size then some (zs, i.size, i.bytes) else none
      | none => none
    | none => none
  | _ => none
theorem makeOf_ok {T : TypeId} {zs : List SV} {sz by_ : Nat} (h : makeOf P T = some (zs, sz, by_)) : ∃ e i, P.underlying T = some (.slice e) ∧ P.info? e = some i ∧ zeroCellsOf P e = some zs ∧ zs.length = i.size ∧ i.size = sz ∧ i.bytes = by_ := by
  unfold makeOf at h
  split at h
  · rename_i e hu
    split at h
    · rename_i i hi
      split at h
      · rename_i zs' hz
        split at h
        · rename_i hl
          simp only [Option.some.injEq, Prod.mk.injEq] at h; obtain ⟨rfl, rfl, rfl⟩ := h
          exact ⟨e, i, hu, hi, hz, hl, rfl, rfl⟩
        · cases h
      · cases h
    · cases h
  · cases h

/-! ### the operations -/
/-- Only if it holds. -/
def onlyIf {α : Type} (c : Prop) [Decidable c] (x : α) : Option α := if c then some x else none
theorem onlyIf_ok {α : Type} {c : Prop} [Decidable c] {x y : α} (h : onlyIf c x = some y) : c ∧ y = x := by
  unfold onlyIf at h
  split at h
  · simp only [Option.some.injEq] at h; exact ⟨by assumption, h.symm⟩
  · cases h

def evalLen (P : Program) (s : SV) (T : TypeId) : Option SV :=
  match s with
  | .d (.v (.string b)) => if isString P T = true then some (.d (.v (.int .i64 b.size))) else none
  | .d (.mp ks _) => if isMap P T = true then some (.d (.v (.int .i64 ks.length))) else none
  | s => match lenS s with
    | some n => if isSlice P T = true then some (.d (.v (.int .i64 n))) else none
    | none => none

theorem OpS.evalLen {id : Nat} {o : Oper} {x : Operand} {T : TypeId} {s r : SV} (ho : o.op = .call { callee := .builtin .len, args := #[x], argTypes := #[T] }) (hs : evalO E x = some s) (h : Sh.evalLen P s T = some r) : OpS P id E S o r S := by
  unfold Sh.evalLen at h
  split at h
  · rename_i b'
    split at h
    · rename_i h3
      simp only [Option.some.injEq] at h; subst h
      exact .quiet (fun m0 w0 G F a w hr => does_len_string (T2 := T) ho hr hs (isString_ok h3))
    · cases h
  · rename_i ks vs
    split at h
    · rename_i h3
      simp only [Option.some.injEq] at h; subst h
      refine .quiet (fun m0 w0 G F a w hr => ?_)
      have hX := evalO_ok hr hs
      generalize hu : a.eval x = u at hX
      cases hX with
      | d hp =>
        obtain ⟨B, es, rfl, hm, h1, h2, _⟩ := hp.mp_inv
        rw [← h2]
        exact does_len_map ho hr hu h1 h3
    · cases h
  · split at h
    · rename_i n hl
      split at h
      · rename_i h3
        simp only [Option.some.injEq] at h; subst h
        obtain ⟨e, hu⟩ := isSlice_ok h3
        exact .quiet (fun m0 w0 G F a w hr => does_len ho hr hs hl hu)
      · cases h
    · cases h

/-- The bounds within which a row may be appended to. -/
def appBound (n m by_ : Nat) : Prop := (n + m) * by_ ≤ 140737488355328 ∧ n + m ≤ 140737488355328
instance (n m by_ : Nat) : Decidable (appBound n m by_) := by unfold appBound; infer_instance

def evalAppend (P : Program) (S : St) (id : Nat) (dst : Option Nat) (T : TypeId) (s t : SV) : Option (SV × Eff) :=
  match rowS t, appOf P T with
  | some (ds, m), some (_, sz, by_) => match s with
    | .fl cs n => if m = 0 then some (.fl cs n, .no) else
        if (dst.any fun d => S.md.contains d) = true then onlyIf (cs.length = n * sz ∧ ds.length = m * sz ∧ appBound n m by_) (.os id 0 (n + m), .new ((cs ++ ds).map .d))
        else onlyIf (cs.length = n * sz ∧ ds.length = m * sz ∧ appBound n m by_) (.tp id 0 (cs ++ ds) (n + m), .tip id (n + m) sz)
    | .tp i q cs n => onlyIf (S.T i = some (q + n, sz) ∧ cs.length = n * sz ∧ ds.length = m * sz ∧ appBound n m by_) (.tp i q (cs ++ ds) (n + m), .tip i (q + (n + m)) sz)
    | .sk b n sz' => match S.B b with
      | some cs => onlyIf (sz' = sz ∧ 0 < m ∧ n * sz ≤ cs.length ∧ ds.length = m * sz ∧ appBound n m by_) (.sk id (n + m) sz, .mov b (cs.take (n * sz) ++ ds.map .d))
      | none => none
    | _ => none
  | _, _ => none

theorem keeps_app (id : Nat) (e : Eff) : Keeps S (S.app id e) := by cases e <;> exact ⟨rfl, rfl, rfl, Nat.le_refl _⟩

theorem OpS.evalAppend {id : Nat} {o : Oper} {x y : Operand} {T : TypeId} {s t r : SV} {e : Eff} (ho : o.op = .call { callee := .builtin .append, args := #[x, y], argTypes := #[T, T] }) (hs : evalO E x = some s) (ht : evalO E y = some t)
    (h : Sh.evalAppend P S id o.dst T s t = some (r, e)) : OpS P id E S o r (S.app id e) := by
  unfold Sh.evalAppend at h
  split at h
  · rename_i ds m ty sz by_ hr2 hT
    split at h
    · rename_i cs n
      split at h
      · rename_i hm
        subst hm
        simp only [Option.some.injEq, Prod.mk.injEq] at h; obtain ⟨rfl, rfl⟩ := h
        exact .quiet (fun m0 w0 G F a w hr => does_append_none ho hr hs ht rfl hr2 hT)
      · rename_i hm
        split at h
        · obtain ⟨⟨h1, h2, h3, h4⟩, h5⟩ := onlyIf_ok h
          simp only [Prod.mk.injEq] at h5; obtain ⟨rfl, rfl⟩ := h5
          exact .of_does (keeps_app _ _) (fun m0 w0 G F a w hr hid => does_append_var ho hr hid hs ht hr2 hT (by omega) h1 h2 h3 h4)
        · obtain ⟨⟨h1, h2, h3, h4⟩, h5⟩ := onlyIf_ok h
          simp only [Prod.mk.injEq] at h5; obtain ⟨rfl, rfl⟩ := h5
          exact .of_does (keeps_app _ _) (fun m0 w0 G F a w hr hid => does_append_new ho hr hid hs ht hr2 hT (by omega) h1 h2 h3 h4)
    · rename_i i q cs n
      obtain ⟨⟨h0, h1, h2, h3, h4⟩, h5⟩ := onlyIf_ok h
      simp only [Prod.mk.injEq] at h5; obtain ⟨rfl, rfl⟩ := h5
      exact .of_does (keeps_app _ _) (fun m0 w0 G F a w hr hid => (does_append_tip ho hr hs h0 ht hr2 hT h1 h2 h3 h4).less (fun b hb => hb.1))
    · rename_i b n sz'
      split at h
      · rename_i cs hb
        obtain ⟨⟨h0, h1, h2, h3, h4, h5⟩, h6⟩ := onlyIf_ok h
        simp only [Prod.mk.injEq] at h6; obtain ⟨rfl, rfl⟩ := h6
        subst h0
        exact .of_does (keeps_app _ _) (fun m0 w0 G F a w hr hid => does_append_sk ho hr hid hs hb ht hr2 hT h1 h2 h3 h4 h5)
      · cases h
    · cases h
  · cases h

def evalSlice (P : Program) (E : Env) (S : St) (T : TypeId) (s : SV) (lo hi : Option Operand) : Option SV :=
  match s with
  | .d (.v (.string b)) => match bndS E 0 lo, bndS E b.size hi, isString P T with
    | some l, some u, true => onlyIf (0 ≤ l ∧ l ≤ u ∧ u ≤ b.size) (.d (.v (.string (b.extract l.toNat u.toNat))))
    | _, _, _ => none
  | .op b off => match arrayOf P T with
    | some (n, sz) => match bndS E 0 lo, bndS E n hi with
      | some l, some u => onlyIf (0 ≤ l ∧ l < u ∧ u ≤ n) (.os b (off + l.toNat * sz) (u.toNat - l.toNat))
      | _, _ => none
    | none => none
  | .d (.pp cs off) => match arrayOf P T with
    | some (n, sz) => match bndS E 0 lo, bndS E n hi with
      | some l, some u => onlyIf (0 ≤ l ∧ l < u ∧ u ≤ n) (.d (.ps ((cs.drop (off + l.toNat * sz)).take ((u.toNat - l.toNat) * sz)) (u.toNat - l.toNat)))
      | _, _ => none
    | none => none
  | .os b off n => match elemOf P T, bndS E 0 lo, bndS E n hi with
    | some (_, sz), some l, some u => onlyIf (0 ≤ l ∧ l < u ∧ u ≤ n) (.os b (off + l.toNat * sz) (u.toNat - l.toNat))
    | _, _, _ => none
  | .sk b n sz => match lo with
    | none => match elemOf P T, bndS E n hi with
      | some _, some u => onlyIf (0 ≤ u ∧ u ≤ n) (.sk b u.toNat sz)
      | _, _ => none
    | some _ => none
  | .tp i q cs n => match hi with
    | none => match elemOf P T, bndS E 0 lo with
      | some (_, sz), some l => onlyIf (S.T i = some (q + n, sz) ∧ 0 ≤ l ∧ l ≤ n ∧ cs.length = n * sz) (.tp i (q + l.toNat) (cs.drop (l.toNat * sz)) (n - l.toNat))
      | _, _ => none
    | some _ => match elemOf P T, bndS E 0 lo, bndS E n hi with
      | some (_, sz), some l, some u => onlyIf (0 ≤ l ∧ l ≤ u ∧ u ≤ n) (.d (.ps ((cs.drop (l.toNat * sz)).take ((u.toNat - l.toNat) * sz)) (u.toNat - l.toNat)))
      | _, _, _ => none
  | s => match rowS s with
    | some (cs, n) => match elemOf P T, bndS E 0 lo, bndS E n hi with
      | some (_, sz), some l, some u => onlyIf (0 ≤ l ∧ l ≤ u ∧ u ≤ n) (.d (.ps ((cs.drop (l.toNat * sz)).take ((u.toNat - l.toNat) * sz)) (u.toNat - l.toNat)))
      | _, _, _ => none
    | none => none

theorem OpS.evalSlice {id : Nat} {o : Oper} {x : Operand} {T : TypeId} {lo hi : Option Operand} {s r : SV} (ho : o.op = .slice T x lo hi none) (hs : evalO E x = some s) (h : Sh.evalSlice P E S T s lo hi = some r) : OpS P id E S o r S := by
  unfold Sh.evalSlice at h
  split at h
  · split at h
    · rename_i l u h1 h2 h3
      obtain ⟨⟨c1, c2, c3⟩, rfl⟩ := onlyIf_ok h
      exact .quiet (fun m0 w0 G F a w hr => does_slice_string ho hr hs (isString_ok h3) h1 h2 c1 c2 c3)
    · cases h
  · split at h
    · rename_i n sz hA
      obtain ⟨e, hA1, hA2⟩ := arrayOf_ok hA
      split at h
      · rename_i l u h1 h2
        obtain ⟨⟨c1, c2, c3⟩, rfl⟩ := onlyIf_ok h
        exact .quiet (fun m0 w0 G F a w hr => does_slice_op ho hr hs hA1 hA2 h1 h2 c1 c2 c3)
      · cases h
    · cases h
  · split at h
    · rename_i n sz hA
      obtain ⟨e, hA1, hA2⟩ := arrayOf_ok hA
      split at h
      · rename_i l u h1 h2
        obtain ⟨⟨c1, c2, c3⟩, rfl⟩ := onlyIf_ok h
        exact .quiet (fun m0 w0 G F a w hr => does_slice_pa ho hr hs hA1 hA2 h1 h2 c1 c2 c3)
      · cases h
    · cases h
  · split at h
    · rename_i e sz l u hA h1 h2
      obtain ⟨hA1, hA2⟩ := elemOf_ok hA
      obtain ⟨⟨c1, c2, c3⟩, rfl⟩ := onlyIf_ok h
      exact .quiet (fun m0 w0 G F a w hr => does_slice_os ho hr hs hA1 hA2 h1 h2 c1 c2 c3)
    · cases h
  · rename_i b n sz
    split at h
    · split at h
      · rename_i es u hA h1
        obtain ⟨hA1, hA2⟩ := elemOf_ok (e := es.1) (sz := es.2) hA
        obtain ⟨⟨c1, c2⟩, rfl⟩ := onlyIf_ok h
        exact .quiet (fun m0 w0 G F a w hr => does_slice_sk ho hr hs hA1 hA2 h1 c1 c2)
      · cases h
    · cases h
  · rename_i i q cs n
    split at h
    · split at h
      · rename_i e sz l hA h1
        obtain ⟨hA1, hA2⟩ := elemOf_ok hA
        obtain ⟨⟨c0, c1, c2, c3⟩, rfl⟩ := onlyIf_ok h
        exact .quiet (fun m0 w0 G F a w hr => does_slice_tip ho hr hs c0 hA1 hA2 h1 c1 c2 c3)
      · cases h
    · split at h
      · rename_i e sz l u hA h1 h2
        obtain ⟨hA1, hA2⟩ := elemOf_ok hA
        obtain ⟨⟨c1, c2, c3⟩, rfl⟩ := onlyIf_ok h
        exact .quiet (fun m0 w0 G F a w hr => does_slice_row ho hr hs rfl hA1 hA2 h1 h2 c1 c2 c3)
      · cases h
  · split at h
    · rename_i cs n hrow
      split at h
      · rename_i e sz l u hA h1 h2
        obtain ⟨hA1, hA2⟩ := elemOf_ok hA
        obtain ⟨⟨c1, c2, c3⟩, rfl⟩ := onlyIf_ok h
        exact .quiet (fun m0 w0 G F a w hr => does_slice_row ho hr hs hrow hA1 hA2 h1 h2 c1 c2 c3)
      · cases h
    · cases h

def evalMake (P : Program) (S : St) (id : Nat) (dst : Option Nat) (T : TypeId) (s t : SV) : Option (SV × Eff) :=
  match s, t, makeOf P T with
  | .d (.v (.int _ l)), .d (.v (.int _ c)), some (zs, sz, by_) =>
    if (dst.any fun d => S.md.contains d) = true then onlyIf (l = 0 ∧ 0 < sz ∧ 0 ≤ c ∧ (by_ : Int) * c ≤ 281474976710656 ∧ c ≤ 9223372036854775807) (.tp id 0 [] 0, .tip id 0 sz)
    else onlyIf (c = l ∧ 0 ≤ l ∧ (by_ : Int) * l ≤ 281474976710656 ∧ l ≤ 9223372036854775807) (.os id 0 l.toNat, .new ((List.range (l.toNat * sz)).map fun j => zs.getD (j % sz) (.d (.v undef))))
  | _, _, _ => none

theorem OpS.evalMake {id : Nat} {o : Oper} {x y : Operand} {T : TypeId} {s t r : SV} {e : Eff} (ho : o.op = .makeSlice T x y) (hs : evalO E x = some s) (ht : evalO E y = some t) (h : Sh.evalMake P S id o.dst T s t = some (r, e)) : OpS P id E S o r (S.app id e) := by
  unfold Sh.evalMake at h
  split at h
  · rename_i k l k' c zs sz by_ hT
    obtain ⟨e', i, h1, h2, h3, h4, rfl, rfl⟩ := makeOf_ok hT
    split at h
    · obtain ⟨⟨rfl, c1, c2, c3, c4⟩, h5⟩ := onlyIf_ok h
      simp only [Prod.mk.injEq] at h5; obtain ⟨rfl, rfl⟩ := h5
      exact .of_does (keeps_app _ _) (fun m0 w0 G F a w hr hid => does_make_tip ho hr hid hs ht h1 h2 h3 h4 c1 c2 c3 c4)
    · obtain ⟨⟨rfl, c2, c3, c4⟩, h5⟩ := onlyIf_ok h
      simp only [Prod.mk.injEq] at h5; obtain ⟨rfl, rfl⟩ := h5
      exact .of_does (keeps_app _ _) (fun m0 w0 G F a w hr hid => does_make ho hr hid hs ht h1 h2 h3 h4 c2 c3 c4)
  · cases h

def evalConv (P : Program) (id : Nat) (T U : TypeId) (s : SV) : Option (SV × Eff) :=
  match s with
  | .d (.v (.int _ n)) => match intKindOf P U, known P T with
    | some k, true => some (.d (.v (.int k (k.wrap n))), .no)
    | _, _ => none
  | .d (.v (.string b)) => match isString P T, bytesOf P U with
    | true, some _ => some (.d (.ps (bytesD b) b.size), .no)
    | _, _ => none
  | s => match rowS s with
    | some (cs, n) => match numsOf cs, bytesOf P T, isString P U with
      | some ns, some _, true => onlyIf (ns.length = n) (.d (.v (.string (strOfNums ns))), .no)
      | _, _, _ => none
    | none => none

theorem OpS.evalConv {id : Nat} {o : Oper} {x : Operand} {T U : TypeId} {s r : SV} {e : Eff} (ho : o.op = .convert T U x) (hs : evalO E x = some s) (h : Sh.evalConv P id T U s = some (r, e)) : OpS P id E S o r (S.app id e) := by
  unfold Sh.evalConv at h
  split at h
  · split at h
    · rename_i k h1 h2
      simp only [Option.some.injEq, Prod.mk.injEq] at h; obtain ⟨rfl, rfl⟩ := h
      obtain ⟨d, hd⟩ := Option.isSome_iff_exists.1 h2
      exact .quiet (fun m0 w0 G F a w hr => does_convert ho hr hs hd (intKindOf_ok h1))
    · cases h
  · split at h
    · rename_i e' h1 h2
      simp only [Option.some.injEq, Prod.mk.injEq] at h; obtain ⟨rfl, rfl⟩ := h
      obtain ⟨g1, g2⟩ := bytesOf_ok h2
      exact .quiet (fun m0 w0 G F a w hr => does_bytes_of_string ho hr hs (isString_ok h1) g1 g2)
    · cases h
  · split at h
    · rename_i cs n hrow
      split at h
      · rename_i ns e' h1 h2 h3
        obtain ⟨c1, h5⟩ := onlyIf_ok h
        simp only [Prod.mk.injEq] at h5; obtain ⟨rfl, rfl⟩ := h5
        obtain ⟨g1, g2⟩ := bytesOf_ok h2
        exact .quiet (fun m0 w0 G F a w hr => does_string_of_bytes ho hr hs hrow h1 c1 g1 g2 (isString_ok h3))
      · cases h
    · cases h

def evalAssert (P : Program) (A : TypeId) (ok : Bool) (s : SV) : Option SV :=
  match ok with
  | true => match s with
    | .d (.v .nilIface) => match concrete P A, zeroS P A with
      | true, some z => some (.tu [z, .d (.v (.bool false))])
      | _, _ => none
    | s => match ifcS s, concrete P A, zeroS P A with
      | some (t, s'), true, some z => some (if t = A then .tu [s', .d (.v (.bool true))] else .tu [z, .d (.v (.bool false))])
      | _, _, _ => none
  | false => match ifcS s, concrete P A with
    | some (t, s'), true => onlyIf (t = A) s'
    | _, _ => none

theorem OpS.evalAssert {id : Nat} {o : Oper} {x : Operand} {T A : TypeId} {ok : Bool} {s r : SV} (ho : o.op = .typeAssert x T A ok) (hs : evalO E x = some s) (h : Sh.evalAssert P A ok s = some r) : OpS P id E S o r S := by
  unfold Sh.evalAssert at h
  split at h
  · split at h
    · split at h
      · rename_i z h1 h2
        simp only [Option.some.injEq] at h; subst h
        exact .quiet (fun m0 w0 G F a w hr => does_assert2_nil ho hr hs h1 h2)
      · cases h
    · split at h
      · rename_i t s' z h1 h2 h3
        simp only [Option.some.injEq] at h; subst h
        exact .quiet (fun m0 w0 G F a w hr => does_assert2 ho hr hs h1 h2 h3)
      · cases h
  · split at h
    · rename_i t s' h1 h2
      obtain ⟨rfl, rfl⟩ := onlyIf_ok h
      exact .quiet (fun m0 w0 G F a w hr => does_assert1 ho hr hs h1 h2)
    · cases h

def evalIndexAddr (P : Program) (T : TypeId) (s : SV) (i : Int) : Option SV :=
  match s with
  | .os b off n => match elemOf P T with
    | some (_, sz) => onlyIf (0 ≤ i ∧ i < n) (.op b (off + i.toNat * sz))
    | none => none
  | .sk b n _ => match elemOf P T with
    | some (_, sz) => onlyIf (0 ≤ i ∧ i < n) (.op b (i.toNat * sz))
    | none => none
  | .op b off => match arrayOf P T with
    | some (n, sz) => onlyIf (0 ≤ i ∧ i < n) (.op b (off + i.toNat * sz))
    | none => none
  | .d (.pp cs off) => match arrayOf P T with
    | some (n, sz) => onlyIf (0 ≤ i ∧ i < n) (.d (.pp cs (off + i.toNat * sz)))
    | none => none
  | s => match rowS s, elemOf P T with
    | some (cs, n), some (_, sz) => onlyIf (0 ≤ i ∧ i < n) (.d (.pp cs (i.toNat * sz)))
    | _, _ => none

theorem OpS.evalIndexAddr {id : Nat} {o : Oper} {x y : Operand} {T : TypeId} {s r : SV} {k : IntKind} {i : Int} (ho : o.op = .indexAddr T x y) (hs : evalO E x = some s) (hy : evalO E y = some (.d (.v (.int k i)))) (h : Sh.evalIndexAddr P T s i = some r) : OpS P id E S o r S := by
  unfold Sh.evalIndexAddr at h
  split at h
  · split at h
    · rename_i e sz hA
      obtain ⟨hA1, hA2⟩ := elemOf_ok hA
      obtain ⟨⟨c1, c2⟩, rfl⟩ := onlyIf_ok h
      exact .quiet (fun m0 w0 G F a w hr => does_indexAddr_os ho hr hs hy hA1 hA2 c1 c2)
    · cases h
  · split at h
    · rename_i e sz hA
      obtain ⟨hA1, hA2⟩ := elemOf_ok hA
      obtain ⟨⟨c1, c2⟩, rfl⟩ := onlyIf_ok h
      exact .quiet (fun m0 w0 G F a w hr => does_indexAddr_sk ho hr hs hy hA1 hA2 c1 c2)
    · cases h
  · split at h
    · rename_i n sz hA
      obtain ⟨e, hA1, hA2⟩ := arrayOf_ok hA
      obtain ⟨⟨c1, c2⟩, rfl⟩ := onlyIf_ok h
      exact .quiet (fun m0 w0 G F a w hr => does_indexAddr_op ho hr hs hy hA1 hA2 c1 c2)
    · cases h
  · split at h
    · rename_i n sz hA
      obtain ⟨e, hA1, hA2⟩ := arrayOf_ok hA
      obtain ⟨⟨c1, c2⟩, rfl⟩ := onlyIf_ok h
      exact .quiet (fun m0 w0 G F a w hr => does_indexAddr_pa ho hr hs hy hA1 hA2 c1 c2)
    · cases h
  · split at h
    · rename_i cs n e sz hrow hA
      obtain ⟨hA1, hA2⟩ := elemOf_ok hA
      obtain ⟨⟨c1, c2⟩, rfl⟩ := onlyIf_ok h
      exact .quiet (fun m0 w0 G F a w hr => does_indexAddr_row ho hr hs hrow hy hA1 hA2 c1 c2)
    · cases h

/-- A comparison with the literal nil. -/
def evalNil (P : Program) (op : BinOp) (T : TypeId) (s : SV) (c : Value) : Option SV :=
  match nilTest P T s, nilFor P T c, op with
  | some b, true, .eql => some (.d (.v (.bool b)))
  | some b, true, .neq => some (.d (.v (.bool (!b))))
  | _, _, _ => none

theorem OpS.evalNil {id : Nat} {o : Oper} {op : BinOp} {T T2 : TypeId} {x : Operand} {c : Value} {s r : SV} (ho : o.op = .binOp op T x (.const c) T2) (hs : evalO E x = some s) (h : Sh.evalNil P op T s c = some r) : OpS P id E S o r S := by
  unfold Sh.evalNil at h
  split at h
  · rename_i b h1 h2
    simp only [Option.some.injEq] at h; subst h
    exact .quiet (fun m0 w0 G F a w hr => by simpa using does_nil_eq ho (.inl rfl) hr hs h1 h2)
  · rename_i b h1 h2
    simp only [Option.some.injEq] at h; subst h
    exact .quiet (fun m0 w0 G F a w hr => by simpa using does_nil_eq ho (.inr rfl) hr hs h1 h2)
  · cases h

def zerosOf (P : Program) (T : TypeId) : Option (List D × Nat) :=
  match elemOf P T with
  | some (e, sz) => match zeroD P e with
    | some zs => if zs.length = sz then some (zs, sz) else none
    | none => none
  | none => none
theorem zerosOf_ok {T : TypeId} {zs : List D} {sz : Nat} (h : zerosOf P T = some (zs, sz)) : ∃ e, P.underlying T = some (.slice e) ∧ szOf P e = some sz ∧ zeroD P e = some zs ∧ zs.length = sz := by
  unfold zerosOf at h
  split at h
  · rename_i e sz' hA
    obtain ⟨hA1, hA2⟩ := elemOf_ok hA
    split at h
    · rename_i zs' hz
      split at h
      · rename_i hl
        simp only [Option.some.injEq, Prod.mk.injEq] at h; obtain ⟨rfl, rfl⟩ := h
        exact ⟨e, hA1, hA2, hz, hl⟩
      · cases h
    · cases h
  · cases h

/-- Two structs with pointers that cannot be the same. -/
noncomputable def eqlE (P : Program) (gl : Nat → Option D) (op : BinOp) (T : TypeId) (s t : SV) : Option (SV × Eff) :=
  match op, s.toD, t.toD with
  | .eql, some d, some d' => @onlyIf _ (gl cleanAt ≠ none ∧ spanT P T = true ∧ keyD P T d = true ∧ keyD P T d' = true ∧ Apart d d') (Classical.propDecidable _) (.d (.v (.bool false)), .no)
  | _, _, _ => none
/-- A row that is made whole. -/
def rowE (md : List Nat) (dst : Option Nat) (n : Nat) (cs : List D) : Option (SV × Eff) :=
  if (dst.any fun d => md.contains d) = true then none else some (.fl cs n, .no)

/-- What an operation that is no call gives, and what it does to the variables. -/
noncomputable def evalOp (P : Program) (E : Env) (S : St) (id : Nat) (o : Oper) : Option (SV × Eff) :=
  match o.op with
  | .move x => (evalO E x).map fun s => (s, .no)
  | .assign x => (evalO E x).map fun s => (s, .no)
  | .pick c x y => match evalO E c, evalO E x, evalO E y with
    | some (.d (.v (.bool b))), some s, some t => some (if b = true then s else t, .no)
    | _, _, _ => none
  | .alloc T => (zeroCellsOf P T).map fun cs => (.op id 0, .new cs)
  | .box _ x => match evalO E x with
    | some s => if s.one = true then some (.op id 0, .new s.cells) else none
    | none => none
  | .build T ps => match zeroCellsOf P T, partsS E ps.toList, sized P T with
    | some zs, some l, true => (fillL (placeOf P T) zs l).map fun cs => (.ag cs, .no)
    | _, _, _ => none
  | .buildSlice T n ps => match zerosOf P T, partsD E ps.toList with
    | some (zs, sz), some l => if n * sz ≤ 16777216 then (fillL (fun i => some (i * sz, sz)) ((List.range (n * sz)).map fun j => zs.getD (j % sz) default) l).bind (rowE S.md o.dst n) else none
    | _, _ => none
  | .load T x => match evalO E x with
    | some (.d (.pp cs off)) => (loadD P T cs off).map fun s => (.d s, .no)
    | some (.op b off) => match S.B b with
      | some cs => (loadS P T cs off).map fun s => (s, .no)
      | none => none
    | _ => none
  | .store T x y => match evalO E x, evalO E y, szOf P T with
    | some (.op b off), some s, some n => match S.B b with
      | some cs => onlyIf (s.one = true ∧ s.cells.length = n ∧ off + n ≤ cs.length) (.d (.v undef), .set b (cs.take off ++ s.cells ++ cs.drop (off + n)))
      | none => none
    | _, _, _ => none
  | .nilCheck x => match evalO E x with
    | some s => if notNil s = true then some (s, .no) else none
    | none => none
  | .binOp op T x y _ => match y with
    | .const c => if isNil c = true then match evalO E x with
        | some s => (evalNil P op T s c).map fun s => (s, .no)
        | none => none
      else match evalO E x, ofConst c with
        | some (.d (.v u)), some (.d (.v v)) => (binS P op T u v).map fun r => (.d (.v r), .no)
        | _, _ => none
    | _ => match evalO E x, evalO E y with
      | some (.d (.v u)), some (.d (.v v)) => (binS P op T u v).map fun r => (.d (.v r), .no)
      | some s, some t => eqlE P S.gl op T s t
      | _, _ => none
  | .makeFunc fn first caps => match argsS E first.toList, argsS E caps.toList with
    | some xs, some ys => some (.fn fn xs ys, .no)
    | _, _ => none
  | .unOp op _ x => match evalO E x with
    | some (.d (.v u)) => (unS op u).map fun r => (.d (.v r), .no)
    | _ => none
  | .convert Ts Td x => match evalO E x with
    | some s => evalConv P id Ts Td s
    | none => none
  | .makeSlice T x y => match evalO E x, evalO E y with
    | some s, some t => evalMake P S id o.dst T s t
    | _, _ => none
  | .slice T x lo hi none => match evalO E x with
    | some s => (evalSlice P E S T s lo hi).map fun s => (s, .no)
    | none => none
  | .field T x i => match evalO E x, fieldTy P T i with
    | some (.ag cs), some (t, off) => (loadS P t cs off).map fun s => (s, .no)
    | some (.d (.agg cs)), some (t, off) => (loadD P t cs off).map fun s => (.d s, .no)
    | _, _ => none
  | .fieldAddr T x i => match evalO E x, fieldOf P T i with
    | some (.d (.pp cs off)), some n => some (.d (.pp cs (off + n)), .no)
    | some (.op b off), some n => some (.op b (off + n), .no)
    | _, _ => none
  | .indexAddr T x y => match evalO E x, evalO E y with
    | some s, some (.d (.v (.int _ i))) => (evalIndexAddr P T s i).map fun s => (s, .no)
    | _, _ => none
  | .index T x y => match evalO E x, evalO E y, isString P T with
    | some (.d (.v (.string s))), some (.d (.v (.int _ i))), true => onlyIf (0 ≤ i ∧ i < s.size) (.d (.v (.int .u8 (s.data.toList.getD i.toNat 0).toNat)), .no)
    | _, _, _ => none
  | .makeInterface T x => match evalO E x, isIface P T with
    | some s, some false => some (mkIfc T s, .no)
    | _, _ => none
  | .typeAssert x _ A ok => match evalO E x with
    | some s => (evalAssert P A ok s).map fun s => (s, .no)
    | none => none
  | .extract x i => match evalO E x with
    | some t => (tupS t i).map fun s => (s, .no)
    | none => none
  | .call c => match c.callee, c.args.toList, c.argTypes.toList with
    | .builtin .len, [x], [T] => match evalO E x with
      | some s => (evalLen P s T).map fun s => (s, .no)
      | none => none
    | .builtin .append, [x, y], [T, T'] => match evalO E x, evalO E y with
      | some s, some t => if T = T' then evalAppend P S id o.dst T s t else none
      | _, _ => none
    | _, _, _ => none
  | _ => none

theorem byte_at {s : ByteArray} {i : Nat} (h : i < s.size) : s.data.toList.getD i 0 = s[i] := by
  have h2 : i < s.data.size := h
  rw [List.getD_eq_getElem?_getD, Array.getElem?_toList, Array.getElem?_eq_getElem h2]
  rfl

set_option maxHeartbeats 3200000 in
theorem OpS.eval {id : Nat} {o : Oper} {s : SV} {e : Eff} (h : evalOp P E S id o = some (s, e)) : OpS P id E S o s (S.app id e) := by
  unfold evalOp at h
  split at h
  · rename_i x ho
    simp only [Option.map_eq_some_iff, Prod.mk.injEq] at h; obtain ⟨s', h1, rfl, rfl⟩ := h
    exact .quiet (fun m0 w0 G F a w hr => does_move (.inl ho) hr h1)
  · rename_i x ho
    simp only [Option.map_eq_some_iff, Prod.mk.injEq] at h; obtain ⟨s', h1, rfl, rfl⟩ := h
    exact .quiet (fun m0 w0 G F a w hr => does_move (.inr ho) hr h1)
  · rename_i c x y ho
    split at h
    · rename_i b s1 s2 hc hx hy
      simp only [Option.some.injEq, Prod.mk.injEq] at h; obtain ⟨rfl, rfl⟩ := h
      exact .quiet (fun m0 w0 G F a w hr => does_pick ho hr hc (by cases b <;> simp [hx, hy]))
    · cases h
  · rename_i T ho
    simp only [Option.map_eq_some_iff, Prod.mk.injEq] at h; obtain ⟨cs, h1, rfl, rfl⟩ := h
    exact .of_does (keeps_app _ _) (fun m0 w0 G F a w hr hid => does_alloc ho hr hid h1)
  · rename_i T x ho
    split at h
    · rename_i s' h1
      split at h
      · rename_i h2
        simp only [Option.some.injEq, Prod.mk.injEq] at h; obtain ⟨rfl, rfl⟩ := h
        exact .of_does (keeps_app _ _) (fun m0 w0 G F a w hr hid => does_box ho hr hid h1 h2)
      · cases h
    · cases h
  · rename_i T ps ho
    split at h
    · rename_i zs l h1 h2 h3
      simp only [Option.map_eq_some_iff, Prod.mk.injEq] at h; obtain ⟨cs, h4, rfl, rfl⟩ := h
      exact .quiet (fun m0 w0 G F a w hr => does_build ho hr h1 h2 h3 h4)
    · cases h
  · rename_i T n ps ho
    split at h
    · rename_i zs sz l h1 h2
      split at h
      · rename_i hle
        simp only [Option.bind_eq_some_iff] at h; obtain ⟨cs, h4, h⟩ := h
        obtain ⟨e', g1, g2, g3, g4⟩ := zerosOf_ok h1
        unfold rowE at h
        split at h
        · cases h
        · simp only [Option.some.injEq, Prod.mk.injEq] at h; obtain ⟨rfl, rfl⟩ := h
          exact .quiet (fun m0 w0 G F a w hr => does_buildSlice ho hr g1 g2 g3 g4 hle h2 h4)
      · cases h
    · cases h
  · rename_i T x ho
    split at h
    · rename_i cs off h1
      simp only [Option.map_eq_some_iff, Prod.mk.injEq] at h; obtain ⟨s', h2, rfl, rfl⟩ := h
      exact .quiet (fun m0 w0 G F a w hr => does_load_pp ho hr h1 h2)
    · rename_i b off h1
      split at h
      · rename_i cs hb
        simp only [Option.map_eq_some_iff, Prod.mk.injEq] at h; obtain ⟨s', h2, rfl, rfl⟩ := h
        exact .quiet (fun m0 w0 G F a w hr => does_load_op ho hr h1 hb h2)
      · cases h
    · cases h
  · rename_i T x y ho
    split at h
    · rename_i b off s' n h1 h2 h3
      split at h
      · rename_i cs hb
        obtain ⟨hc, h5⟩ := onlyIf_ok h
        simp only [Prod.mk.injEq] at h5; obtain ⟨rfl, rfl⟩ := h5
        exact .of_does (keeps_app _ _) (fun m0 w0 G F a w hr hid => (does_store ho hr h1 hb h2 hc.1 h3 hc.2.1 hc.2.2).less (fun b hb => hb.1))
      · cases h
    · cases h
  · rename_i x ho
    split at h
    · rename_i s' h1
      split at h
      · rename_i h2
        simp only [Option.some.injEq, Prod.mk.injEq] at h; obtain ⟨rfl, rfl⟩ := h
        exact .quiet (fun m0 w0 G F a w hr => does_nilCheck ho hr h1 h2)
      · cases h
    · cases h
  · rename_i op T x y T' ho
    split at h
    · rename_i c
      split at h
      · split at h
        · rename_i s' h1
          simp only [Option.map_eq_some_iff, Prod.mk.injEq] at h; obtain ⟨r, h3, rfl, rfl⟩ := h
          exact OpS.evalNil ho h1 h3
        · cases h
      · split at h
        · rename_i u v h1 h2
          simp only [Option.map_eq_some_iff, Prod.mk.injEq] at h; obtain ⟨r, h3, rfl, rfl⟩ := h
          exact .quiet (fun m0 w0 G F a w hr => does_bin ho hr h1 h2 h3)
        · cases h
    · split at h
      · rename_i u v h1 h2
        simp only [Option.map_eq_some_iff, Prod.mk.injEq] at h; obtain ⟨r, h3, rfl, rfl⟩ := h
        exact .quiet (fun m0 w0 G F a w hr => does_bin ho hr h1 h2 h3)
      · rename_i s' t' _ h1 h2
        unfold eqlE at h
        split at h
        · rename_i d d' h3 h4
          obtain ⟨⟨c1, c2, c3, c4, c5⟩, h5⟩ := @onlyIf_ok _ _ (Classical.propDecidable _) _ _ h
          simp only [Prod.mk.injEq] at h5; obtain ⟨rfl, rfl⟩ := h5
          exact .quiet (fun m0 w0 G F a w hr => does_eql_apart ho hr c1 h1 h2 h3 h4 c2 c3 c4 c5)
        · cases h
      · cases h
  · rename_i fn first caps ho
    split at h
    · rename_i xs ys h1 h2
      simp only [Option.some.injEq, Prod.mk.injEq] at h; obtain ⟨rfl, rfl⟩ := h
      exact .quiet (fun m0 w0 G F a w hr => by
        obtain ⟨a1, a2⟩ := argsS_ok hr h1
        obtain ⟨b1, b2⟩ := argsS_ok hr h2
        exact does_makeFunc ho hr a1 a2 b1 b2)
    · cases h
  · rename_i op T x ho
    split at h
    · rename_i u h1
      simp only [Option.map_eq_some_iff, Prod.mk.injEq] at h; obtain ⟨r, h3, rfl, rfl⟩ := h
      exact .quiet (fun m0 w0 G F a w hr => does_un ho hr h1 h3)
    · cases h
  · rename_i Ts Td x ho
    split at h
    · rename_i s' h1
      exact OpS.evalConv ho h1 h
    · cases h
  · rename_i T x y ho
    split at h
    · rename_i s' t' h1 h2
      exact OpS.evalMake ho h1 h2 h
    · cases h
  · rename_i T x lo hi ho
    split at h
    · rename_i s' h1
      simp only [Option.map_eq_some_iff, Prod.mk.injEq] at h; obtain ⟨r, h3, rfl, rfl⟩ := h
      exact OpS.evalSlice ho h1 h3
    · cases h
  · rename_i T x i ho
    split at h
    · rename_i cs t off h1 h2
      simp only [Option.map_eq_some_iff, Prod.mk.injEq] at h; obtain ⟨s', h3, rfl, rfl⟩ := h
      unfold fieldTy at h2
      split at h2
      · rename_i fs hu
        split at h2
        · rename_i f hf
          simp only [Option.some.injEq, Prod.mk.injEq] at h2; obtain ⟨rfl, rfl⟩ := h2
          exact .quiet (fun m0 w0 G F a w hr => does_field_ag ho hr h1 hu hf h3)
        · cases h2
      · cases h2
    · rename_i cs t off h1 h2
      simp only [Option.map_eq_some_iff, Prod.mk.injEq] at h; obtain ⟨s', h3, rfl, rfl⟩ := h
      unfold fieldTy at h2
      split at h2
      · rename_i fs hu
        split at h2
        · rename_i f hf
          simp only [Option.some.injEq, Prod.mk.injEq] at h2; obtain ⟨rfl, rfl⟩ := h2
          exact .quiet (fun m0 w0 G F a w hr => does_field_agg ho hr h1 hu hf h3)
        · cases h2
      · cases h2
    · cases h
  · rename_i T x i ho
    split at h
    · rename_i cs off n h1 h2
      simp only [Option.some.injEq, Prod.mk.injEq] at h; obtain ⟨rfl, rfl⟩ := h
      exact .quiet (fun m0 w0 G F a w hr => does_fieldAddr_pp ho hr h1 h2)
    · rename_i b off n h1 h2
      simp only [Option.some.injEq, Prod.mk.injEq] at h; obtain ⟨rfl, rfl⟩ := h
      exact .quiet (fun m0 w0 G F a w hr => does_fieldAddr_op ho hr h1 h2)
    · cases h
  · rename_i T x y ho
    split at h
    · rename_i s' k i h1 h2
      simp only [Option.map_eq_some_iff, Prod.mk.injEq] at h; obtain ⟨r, h3, rfl, rfl⟩ := h
      exact OpS.evalIndexAddr ho h1 h2 h3
    · cases h
  · rename_i T x y ho
    split at h
    · rename_i b k i h1 h2 h3
      obtain ⟨hi, h5⟩ := onlyIf_ok h
      simp only [Prod.mk.injEq] at h5; obtain ⟨rfl, rfl⟩ := h5
      have := OpS.quiet (P := P) (id := id) (E := E) (S := S) (o := o) (fun m0 w0 G F a w hr => does_index_string ho hr h1 h2 (isString_ok h3) hi.1 hi.2)
      rw [byte_at (by omega)]
      exact this
    · cases h
  · rename_i T x ho
    split at h
    · rename_i s' h1 h2
      simp only [Option.some.injEq, Prod.mk.injEq] at h; obtain ⟨rfl, rfl⟩ := h
      unfold isIface at h2
      split at h2
      · cases h2
      · rename_i d hne hu
        exact .quiet (fun m0 w0 G F a w hr => does_makeInterface ho hr h1 hu hne)
      · cases h2
    · cases h
  · rename_i x T A ok ho
    split at h
    · rename_i s' h1
      simp only [Option.map_eq_some_iff, Prod.mk.injEq] at h; obtain ⟨r, h3, rfl, rfl⟩ := h
      exact OpS.evalAssert ho h1 h3
    · cases h
  · rename_i x i ho
    split at h
    · rename_i t h1
      simp only [Option.map_eq_some_iff, Prod.mk.injEq] at h; obtain ⟨s', h3, rfl, rfl⟩ := h
      exact .quiet (fun m0 w0 G F a w hr => does_extract ho hr h1 h3)
    · cases h
  · rename_i c ho
    obtain ⟨callee, args, tys⟩ := c
    simp only at h
    split at h
    · rename_i x T ha ht
      split at h
      · rename_i s' h1
        simp only [Option.map_eq_some_iff, Prod.mk.injEq] at h; obtain ⟨r, h3, rfl, rfl⟩ := h
        exact OpS.evalLen (x := x) (T := T) (by rw [ho, ← Array.toArray_toList (xs := args), ← Array.toArray_toList (xs := tys), ha, ht]) h1 h3
      · cases h
    · rename_i x y T T' ha ht
      split at h
      · rename_i s' t' h1 h2
        split at h
        · rename_i hTT
          subst hTT
          exact OpS.evalAppend (x := x) (y := y) (T := T) (by rw [ho, ← Array.toArray_toList (xs := args), ← Array.toArray_toList (xs := tys), ha, ht]) h1 h2 h
        · cases h
      · cases h
    · cases h
  · cases h

/-! ### operations in the text's order alone: what is left to show -/
def lookV (P : Program) (gl : Nat → Option D) (ok : Bool) (T : TypeId) (K : SV → Eff → Prop) : Option (List SV) → SV → Prop
  | some [.mc ks vs], .d (.v (.string s)) => ∃ r, lookS P T ks vs s ok = some r ∧ K r .no
  | some [.mc ks vs], k => ∃ d kt e z, k.toD = some d ∧ Sh.mapKey P T = some (kt, e) ∧ gl cleanAt ≠ none ∧ keyD P kt d = true ∧ (∀ y ∈ ks, keyD P kt y = true) ∧ lookR P e none ok = some z ∧ K z .no ∧
      ∀ j (hj : j < ks.length) (hv : j < vs.length), ¬ Apart ks[j] d → ∀ r, lookR P e (some vs[j]) ok = some r → K r .no
  | _, _ => False
def lookX (P : Program) (S : St) (ok : Bool) (T : TypeId) (K : SV → Eff → Prop) : Option SV → Option SV → Prop
  | some (.d (.mp ks vs)), some (.d (.v (.string s))) => ∃ r, lookS P T ks (vs.map .d) s ok = some r ∧ K r .no
  | some (.d (.v (.map none))), some (.d (.v (.string s))) => ∃ e r, Sh.mapOf P T = some e ∧ lookR P e none ok = some r ∧ K r .no
  | some (.mv b), some k => lookV P S.gl ok T K (S.B b) k
  | _, _ => False
def updV (P : Program) (gl : Nat → Option D) (T : TypeId) (K : SV → Eff → Prop) (b : Nat) (v : SV) : Option (List SV) → SV → Prop
  | some [.mc ks vs], .d (.v (.string s)) => ∃ e c, Sh.mapOf P T = some e ∧ updK ks vs s v = some c ∧ K (.d (.v undef)) (.set b [c])
  | some [.mc ks vs], k => ∃ d kt e, k.toD = some d ∧ Sh.mapKey P T = some (kt, e) ∧ gl cleanAt ≠ none ∧ keyD P kt d = true ∧ (∀ y ∈ ks, keyD P kt y = true) ∧ K (.d (.v undef)) (.set b [.mc (ks ++ [d]) (vs ++ [v])]) ∧
      ∀ j (hj : j < ks.length), ¬ Apart ks[j] d → K (.d (.v undef)) (.set b [.mc ks (vs.set j v)])
  | _, _ => False
def updX (P : Program) (S : St) (T : TypeId) (K : SV → Eff → Prop) : Option SV → Option SV → Option SV → Prop
  | some (.mv b), some k, some v => updV P S.gl T K b v (S.B b) k
  | _, _, _ => False
def entV (P : Program) (T : TypeId) (K : SV → Eff → Prop) (b : Nat) (s : ByteArray) : Option (List SV) → Prop
  | some [.mc ks vs] => ∃ e r c, Sh.mapOf P T = some e ∧ entK P e ks vs s = some (r, c) ∧ K r (.set b [c])
  | _ => False
def entX (P : Program) (S : St) (T : TypeId) (K : SV → Eff → Prop) : Option SV → Option SV → Prop
  | some (.mv b), some (.d (.v (.string s))) => entV P T K b s (S.B b)
  | _, _ => False
def putV (K : SV → Eff → Prop) (b : Nat) (j : Int) (v : SV) : Option (List SV) → Prop
  | some [.mc ks vs] => 0 ≤ j ∧ j.toNat < vs.length ∧ K (.d (.v undef)) (.set b [.mc ks (vs.set j.toNat v)])
  | _ => False
def putX (S : St) (K : SV → Eff → Prop) : Option SV → Option SV → Option SV → Prop
  | some (.mv b), some (.d (.v (.int .i64 j))), some v => putV K b j v (S.B b)
  | _, _, _ => False
def rangeX (P : Program) (id : Nat) (T : TypeId) (K : SV → Eff → Prop) : Option SV → Prop
  | some (.d (.mp ks vs)) => isMap P T = true ∧ K (.iv id) (.new [.ic ks vs []])
  | _ => False
def nextV (K : SV → Eff → Prop) (b : Nat) : Option (List SV) → Prop
  | some [.ic ks vs seen] => (∀ j (hk : j < ks.length) (hv : j < vs.length), j ∉ seen → K (.tu [.d (.v (.bool true)), .d ks[j], .d vs[j]]) (.set b [.ic ks vs (seen ++ [j])])) ∧ ((∀ j, j < ks.length → j ∈ seen) → K (.tu [.d (.v (.bool false))]) .no)
  | _ => False
def nextX (S : St) (K : SV → Eff → Prop) : Option SV → Prop
  | some (.iv b) => nextV K b (S.B b)
  | _ => False
def entryV (K : SV → Eff → Prop) : Option (List SV) → Prop
  | some [.ic ks vs seen] => ∃ j, seen.getLast? = some j ∧ ∃ (hk : j < ks.length) (hv : j < vs.length), K (.tu [.d ks[j], .d vs[j]]) .no
  | _ => False
def entryX (S : St) (K : SV → Eff → Prop) : Option SV → Prop
  | some (.iv b) => entryV K (S.B b)
  | _ => False
def copyV (P : Program) (T : TypeId) (K : SV → Eff → Prop) (b off n : Nat) : Option (List SV) → Option (List D × Nat) → Option (TypeId × Nat) → Prop
  | some cs, some (ds, m), some (_, sz) => m ≤ n ∧ off + m * sz ≤ cs.length ∧ ds.length = m * sz ∧ 0 < m * sz ∧ K (.d (.v (.int .i64 m))) (.set b (cs.take off ++ ds.map .d ++ cs.drop (off + m * sz)))
  | _, _, _ => False
def copyX (P : Program) (S : St) (T : TypeId) (K : SV → Eff → Prop) : Option SV → Option SV → Prop
  | some (.os b off n), some t => copyV P T K b off n (S.B b) (rowS t) (elemOf P T)
  | _, _ => False
def lenV (P : Program) (T : TypeId) (K : SV → Eff → Prop) : Option (List SV) → Prop
  | some [.mc ks vs] => isMap P T = true ∧ K (.d (.v (.int .i64 ks.length))) .no
  | _ => False
def lenX (P : Program) (S : St) (T : TypeId) (K : SV → Eff → Prop) : Option SV → Prop
  | some (.mv b) => lenV P T K (S.B b)
  | _ => False
def rowX (id n : Nat) (K : SV → Eff → Prop) : Option (List D × Nat) → Option (List (Nat × List D)) → Prop
  | some (zs, sz), some l => n * sz ≤ 16777216 ∧ ∃ cs, fillL (fun i => some (i * sz, sz)) ((List.range (n * sz)).map fun j => zs.getD (j % sz) default) l = some cs ∧ n * sz ≤ cs.length ∧ K (.sk id n sz) (.new (cs.map .d))
  | _, _ => False
/-- What is left to show of an operation that stands in the text's order. -/
def evalX (P : Program) (E : Env) (S : St) (id : Nat) (o : Oper) (K : SV → Eff → Prop) : Prop :=
  match o.op with
  | .makeMap T none => K (.mv id) (.new [.mc [] []])
  | .buildSlice T n ps => (o.dst.any fun d => S.md.contains d) = true ∧ rowX id n K (zerosOf P T) (partsD E ps.toList)
  | .lookup T x y ok => lookX P S ok T K (evalO E x) (evalO E y)
  | .mapUpdate T x y z => updX P S T K (evalO E x) (evalO E y) (evalO E z)
  | .mapEntry T x y => entX P S T K (evalO E x) (evalO E y)
  | .entryStore T x y z => putX S K (evalO E x) (evalO E y) (evalO E z)
  | .range T x => rangeX P id T K (evalO E x)
  | .next x false => nextX S K (evalO E x)
  | .entry x => entryX S K (evalO E x)
  | .call c => match c.callee, c.args.toList, c.argTypes.toList with
    | .builtin .len, [x], [T] => lenX P S T K (evalO E x)
    | .builtin .copy, [x, y], [T, T2] => copyX P S T K (evalO E x) (evalO E y)
    | _, _, _ => False
  | _ => False

theorem OpX.of {id : Nat} {o : Oper} {Q : SV → Eff → Prop} {s : SV} {e : Eff} (hq : Q s e) (h : ∀ (m0 : Nat → Nat) (w0 : World) (G : Gh) (F : Nat → Prop) (a : Act) (w : World), Rel m0 w0 G E S F a w → F id → Does P m0 w0 G E S F a w o s (S.app id e) (fun b => F b ∧ b ≠ id)) : OpX P id E S o Q :=
  fun m0 w0 G F a w hr hid => ⟨s, e, hq, h m0 w0 G F a w hr hid⟩
theorem OpX.same {id : Nat} {o : Oper} {Q : SV → Eff → Prop} {s : SV} (hq : Q s .no) (h : ∀ (m0 : Nat → Nat) (w0 : World) (G : Gh) (F : Nat → Prop) (a : Act) (w : World), Rel m0 w0 G E S F a w → Does P m0 w0 G E S F a w o s S F) : OpX P id E S o Q :=
  .of hq (fun m0 w0 G F a w hr hid => (h m0 w0 G F a w hr).less (fun _ hb => hb.1))
theorem OpX.sets {id b : Nat} {o : Oper} {Q : SV → Eff → Prop} {s : SV} {cs : List SV} (hq : Q s (.set b cs)) (h : ∀ (m0 : Nat → Nat) (w0 : World) (G : Gh) (F : Nat → Prop) (a : Act) (w : World), Rel m0 w0 G E S F a w → Does P m0 w0 G E S F a w o s (S.set b cs) F) : OpX P id E S o Q :=
  .of hq (fun m0 w0 G F a w hr hid => (h m0 w0 G F a w hr).less (fun _ hb => hb.1))

set_option maxHeartbeats 1600000 in
theorem OpX.eval {id : Nat} {o : Oper} {K : SV → Eff → Prop} (h : evalX P E S id o K) : OpX P id E S o K := by
  unfold evalX at h
  split at h
  · rename_i T ho
    exact .of h (fun m0 w0 G F a w hr hid => does_makeMap ho hr hid)
  · rename_i T n ps ho
    obtain ⟨_, h⟩ := h
    unfold rowX at h
    split at h
    · rename_i zs sz l h1 h2
      obtain ⟨hle, cs, h3, h4, h5⟩ := h
      obtain ⟨e', g1, g2, g3, g4⟩ := zerosOf_ok h1
      exact .of h5 (fun m0 w0 G F a w hr hid => does_buildSlice_sk ho hr hid g1 g2 g3 g4 hle h2 h3 h4)
    · exact h.elim
  · rename_i T x y ok ho
    unfold lookX at h
    split at h
    · rename_i ks vs s hx hy
      obtain ⟨r, h1, h2⟩ := h
      exact .same h2 (fun m0 w0 G F a w hr => does_lookup_data ho hr hx hy h1)
    · rename_i s hx hy
      obtain ⟨e, r, h1, h2, h3⟩ := h
      exact .same h3 (fun m0 w0 G F a w hr => does_lookup_nil ho hr hx hy h1 h2)
    · rename_i b k hx hy
      unfold lookV at h
      split at h
      · rename_i ks vs s hb
        obtain ⟨r, h1, h2⟩ := h
        exact .same h2 (fun m0 w0 G F a w hr => does_lookup_var ho hr hx hb hy h1)
      · rename_i ks vs hb _
        obtain ⟨d, kt, e, z, h1, h2, h3, h4, h5, h6, h7, h8⟩ := h
        intro m0 w0 G F a w hr hid
        rcases does_lookup_key ho hr h3 hx hb hy h1 h2 h4 h5 h6 with k | ⟨j, hj, hv, hap, r, hr', k⟩
        · exact ⟨_, _, h7, k.less (fun _ hb => hb.1)⟩
        · exact ⟨_, _, h8 j hj hv hap r hr', k.less (fun _ hb => hb.1)⟩
      · exact h.elim
    · exact h.elim
  · rename_i T x y z ho
    unfold updX at h
    split at h
    · rename_i b k v hx hy hz
      unfold updV at h
      split at h
      · rename_i ks vs s hb
        obtain ⟨e, c, h1, h2, h3⟩ := h
        exact .sets h3 (fun m0 w0 G F a w hr => does_mapUpdate ho hr hx hb hy hz h1 h2)
      · rename_i ks vs hb _
        obtain ⟨d, kt, e, h1, h2, h3, h4, h5, h6, h7⟩ := h
        intro m0 w0 G F a w hr hid
        rcases does_update_key ho hr h3 hx hb hy h1 hz h2 h4 h5 with k | ⟨j, hj, hap, k⟩
        · exact ⟨_, .set b _, h6, k.less (fun _ hb => hb.1)⟩
        · exact ⟨_, .set b _, h7 j hj hap, k.less (fun _ hb => hb.1)⟩
      · exact h.elim
    · exact h.elim
  · rename_i T x y ho
    unfold entX at h
    split at h
    · rename_i b s hx hy
      unfold entV at h
      split at h
      · rename_i ks vs hb
        obtain ⟨e, r, c, h1, h2, h3⟩ := h
        exact .sets h3 (fun m0 w0 G F a w hr => does_mapEntry ho hr hx hb hy h1 h2)
      · exact h.elim
    · exact h.elim
  · rename_i T x y z ho
    unfold putX at h
    split at h
    · rename_i b j v hx hy hz
      unfold putV at h
      split at h
      · rename_i ks vs hb
        obtain ⟨h0, h1, h2⟩ := h
        refine .sets h2 (fun m0 w0 G F a w hr => does_entryStore ho hr hx hb (j := j.toNat) ?_ hz h1)
        rw [hy, Int.toNat_of_nonneg h0]
      · exact h.elim
    · exact h.elim
  · rename_i T x ho
    unfold rangeX at h
    split at h
    · rename_i ks vs hx
      exact .of h.2 (fun m0 w0 G F a w hr hid => does_range ho hr hid hx h.1)
    · exact h.elim
  · rename_i x ho
    unfold nextX at h
    split at h
    · rename_i b hx
      unfold nextV at h
      split at h
      · rename_i ks vs seen hb
        intro m0 w0 G F a w hr hid
        rcases does_next ho hr hx hb with ⟨j, hk, hv, hs, k⟩ | ⟨hall, k⟩
        · exact ⟨_, .set b _, h.1 j hk hv hs, k.less (fun _ hb => hb.1)⟩
        · exact ⟨_, _, h.2 hall, k.less (fun _ hb => hb.1)⟩
      · exact h.elim
    · exact h.elim
  · rename_i x ho
    unfold entryX at h
    split at h
    · rename_i b hx
      unfold entryV at h
      split at h
      · rename_i ks vs seen hb
        obtain ⟨j, hl, hk, hv, h1⟩ := h
        obtain ⟨l, rfl⟩ : ∃ l, seen = l ++ [j] := List.getLast?_eq_some_iff.1 hl
        exact .same h1 (fun m0 w0 G F a w hr => does_entry ho hr hx hb hk hv)
      · exact h.elim
    · exact h.elim
  · rename_i c ho
    obtain ⟨callee, args, tys⟩ := c
    simp only at h
    split at h
    · rename_i x T ha ht
      unfold lenX at h
      split at h
      · rename_i b hx
        unfold lenV at h
        split at h
        · rename_i ks vs hb
          refine .same h.2 (fun m0 w0 G F a w hr => ?_)
          obtain ⟨B, hg, e⟩ := (evalO_ok hr hx).mv_inv
          obtain ⟨es, h1, h2, _⟩ := hr.mapOf hb hg
          rw [← h2]
          exact does_len_map (T := T) (X := x) (by rw [ho, ← Array.toArray_toList (xs := args), ← Array.toArray_toList (xs := tys), ha, ht]) hr e h1 h.1
        · exact h.elim
      · exact h.elim
    · rename_i x y T T2 ha ht
      unfold copyX at h
      split at h
      · rename_i b off n t hx hy
        unfold copyV at h
        split at h
        · rename_i cs ds m e sz hb hr2 hT
          obtain ⟨h1, h2, h3, h4, h5⟩ := h
          obtain ⟨hT1, hT2⟩ := elemOf_ok hT
          exact .sets h5 (fun m0 w0 G F a w hr => does_copy (T := T) (T2 := T2) (x := x) (y := y) (by rw [ho, ← Array.toArray_toList (xs := args), ← Array.toArray_toList (xs := tys), ha, ht]) hr hx hb hy hr2 hT1 hT2 h1 h2 h3 h4)
        · exact h.elim
      · exact h.elim
    · exact h.elim
  · exact h.elim
end
end Go.Sh
