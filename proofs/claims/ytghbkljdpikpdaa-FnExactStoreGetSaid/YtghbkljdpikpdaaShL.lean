/- THE SHADOW, 10: a region that draws its order. Over any program. -/
import Derived.Test.YtghbkljdpikpdaaShK
set_option linter.unusedVariables false
set_option linter.unusedSimpArgs false
namespace Go.Sh
open Go.RowKit (Below)

section
variable {P : Program} {sp : Spl} {ol : Old}

theorem looksAt_operand {ops : Array Oper} {o : Oper} {t : Nat} (h : Operand.tmp t ∈ o.op.operands) : t ∈ looksAt ops o :=
  List.mem_append_left _ (List.mem_filterMap.2 ⟨.tmp t, by simpa using h, rfl⟩)
theorem looksAt_guard {ops : Array Oper} {o : Oper} {g : Nat} {w : Bool} {d : Nat} (h : o.guard = some (g, w)) (hd : (ops[g]?).bind (·.dst) = some d) : d ∈ looksAt ops o := by
  unfold looksAt
  rw [h]
  exact List.mem_append_right _ (by simp [hd])

/-- What drawOk says. -/
def SpAt (ops : Array Oper) (x : Nat × Nat) : Prop := ∃ (h : x.1 < ops.size) (t : Nat), addrX (ops[x.1]).op = some (.tmp t) ∧ t < globalsAt ∧ rootOf ops x.1 t = some x.2
theorem spAt_ok {ops : Array Oper} {x : Nat × Nat} (h : spAt ops x = true) : SpAt ops x := by
  unfold spAt at h
  split at h
  · rename_i o ho
    obtain ⟨hlt, rfl⟩ := Array.getElem?_eq_some_iff.1 ho
    split at h
    · rename_i t ht
      simp only [Bool.and_eq_true, decide_eq_true_eq, beq_iff_eq] at h
      exact ⟨hlt, t, ht, h.1, h.2⟩
    · cases h
  · cases h

/-- The two are told apart. -/
def SpHas (sp : Spl) (i j : Nat) : Prop := ∃ p ∈ sp, p.1.1 = i ∧ p.2.1 = j

/-- One of the two reads or writes what was there before the region, the other one makes a new variable. -/
def OlHas (ol : Old) (i j : Nat) : Prop := ∃ p ∈ ol, (p.1.1 = i ∧ p.2 = j) ∨ (p.1.1 = j ∧ p.2 = i)
def NewAt (ops : Array Oper) (j : Nat) : Prop := ∃ h : j < ops.size, isNew (ops[j]).op = true

structure DrawOk (P : Program) (ops : Array Oper) (sp : Spl) (ol : Old) : Prop where
  mixed : P.follows .mixedOrders = true
  back : ∀ i (h : i < ops.size) e, e ∈ (ops[i]).after.toList → Region.binds .any e = true → e.on < i
  dst : ∀ i j (h : i < ops.size) (h' : j < ops.size), j < i → ∀ d, (ops[i]).dst = some d → (ops[j]).dst ≠ some d
  pair : ∀ i j (h : i < ops.size) (h' : j < ops.size), j < i → cmp ops.toList i j = true ∨
    ((∀ d, (ops[j]).dst = some d → d ∉ looksAt ops ops[i]) ∧ (∀ d, (ops[i]).dst = some d → d ∉ looksAt ops ops[j]) ∧ (clash (memOf (ops[i]).op) (memOf (ops[j]).op) = false ∨ SpHas sp i j ∨ OlHas ol i j))
  spOk : ∀ p ∈ sp, SpAt ops p.1 ∧ SpAt ops p.2
  olOk : ∀ p ∈ ol, SpAt ops p.1 ∧ NewAt ops p.2

theorem drawOk_ok {ops : Array Oper} (h : drawOk P ops sp ol = true) : DrawOk P ops sp ol := by
  unfold drawOk at h
  simp only [Bool.and_eq_true] at h
  obtain ⟨⟨⟨⟨⟨h1, h2⟩, h3⟩, h4⟩, h5⟩, h6⟩ := h
  have pr : ∀ i j (h : i < ops.size) (h' : j < ops.size), j < i → pairOk ops ops.toList sp ol i j = true := fun i j hi hj hlt =>
    List.all_eq_true.1 (List.all_eq_true.1 h4 i (List.mem_range.2 hi)) j (List.mem_range.2 hlt)
  have ge : ∀ i (h : i < ops.size), ops.toList[i]? = some ops[i] := fun i hi => by simp [hi]
  refine ⟨h1, fun i hi e he hb => ?_, fun i j hi hj hlt d hd hd' => ?_, fun i j hi hj hlt => ?_, fun p hp => ?_, fun p hp => ?_⟩
  · have := List.all_eq_true.1 h3 i (List.mem_range.2 hi)
    simp only [Array.getElem?_eq_getElem hi, Option.map_some, Option.getD_some] at this
    have := List.all_eq_true.1 this e he
    simp only [hb, Bool.not_true, Bool.false_or] at this
    simpa using this
  · have := pr i j hi hj hlt
    simp only [pairOk, ge i hi, ge j hj, Bool.and_eq_true] at this
    have := this.1
    simp [hd, hd'] at this
  · have := pr i j hi hj hlt
    simp only [pairOk, ge i hi, ge j hj, Bool.and_eq_true, Bool.or_eq_true] at this
    refine this.2.imp id (fun h => ?_)
    obtain ⟨⟨a, b⟩, c⟩ := h
    refine ⟨fun d hd hm => ?_, fun d hd hm => ?_, ?_⟩
    · simp [hd, hm] at a
    · simp [hd, hm] at b
    · rcases c with (c | c) | c
      · exact .inl (by simpa using c)
      · obtain ⟨p, hp, hc⟩ := List.any_eq_true.1 c
        simp only [Bool.and_eq_true, beq_iff_eq] at hc
        exact .inr (.inl ⟨p, hp, hc⟩)
      · obtain ⟨p, hp, hc⟩ := List.any_eq_true.1 c
        simp only [Bool.or_eq_true, Bool.and_eq_true, beq_iff_eq] at hc
        exact .inr (.inr ⟨p, hp, hc⟩)
  · have := List.all_eq_true.1 h5 p hp
    simp only [Bool.and_eq_true] at this
    exact ⟨spAt_ok this.1, spAt_ok this.2⟩
  · have := List.all_eq_true.1 h6 p hp
    simp only [Bool.and_eq_true] at this
    refine ⟨spAt_ok this.1, ?_⟩
    have h7 := this.2
    by_cases hlt : p.2 < ops.size
    · exact ⟨hlt, by simpa [hlt] using h7⟩
    · simp [hlt] at h7

theorem anc_lt {ops : Array Oper} (hok : DrawOk P ops sp ol) {i j : Nat} (hi : i < ops.size) (h : anc ops.toList i j = true) : j < i := by
  induction i using Nat.strongRecOn with
  | _ i ih =>
    obtain ⟨e, h1, h2, h3⟩ := anc_step (by simpa using hi) h
    have hlt := hok.back i hi e (by simpa using h1) h2
    rcases h3 with h3 | ⟨_, h3⟩
    · omega
    · have := ih e.on hlt (by omega) h3
      omega

section
variable {ops : Array Oper} {E0 : Env} {S0 : St} {base : Nat} {out : Nat → Out}

/-- What operation j does to the slots, the variables, the tips, the numbers. -/
def stE (ops : Array Oper) (out : Nat → Out) (j : Nat) (E : Env) : Env := match ops[j]? with | some o => E.put o.dst (out j).s | none => E
def envL (ops : Array Oper) (out : Nat → Out) (E0 : Env) (L : Nat → Bool) (n : Nat) : Env := foldF (stE ops out) L n E0
def stL (out : Nat → Out) (S0 : St) (L : Nat → Bool) (n : Nat) : St := { S0 with B := foldF (fun j => (out j).fB) L n S0.B, T := foldF (fun j => (out j).fT) L n S0.T, nx := foldF (fun j => (out j).fx) L n S0.nx }

abbrev allL : Nat → Bool := fun _ => true

theorem foldF_lt {X : Type} {f : Nat → X → X} {k : Nat} : ∀ {n : Nat} {x : X}, k ≤ n → foldF f (fun j => decide (j < k)) n x = foldF f allL k x
  | 0, x, h => by have : k = 0 := by omega
                  subst this; rfl
  | n + 1, x, h => by
    by_cases e : k = n + 1
    · subst e
      exact foldF_congr fun j hj => .inr (by simp [hj])
    · simp only [foldF]
      rw [if_neg (by simp; omega)]
      exact foldF_lt (by omega)

/-- The trace, one operation after the other. -/
theorem Tr.at {lo : Nat → Bool} : ∀ {l : List Oper} {r : List Out} {i : Nat} {E : Env} {S : St} {E' : Env} {S' : St}, Tr lo P ops base i l E S r E' S' → (∀ k, k < l.length → ops[i + k]? = l[k]?) → (∀ k, k < l.length → r[k]? = some (out (i + k))) →
    E = envL ops out E0 allL i → S = stL out S0 allL i → (∀ k (h : k < l.length), Step1 (loAt lo ops base (i + k) (envL ops out E0 allL (i + k))) P ops (base + (i + k)) l[k] (envL ops out E0 allL (i + k)) (stL out S0 allL (i + k)) (out (i + k))) ∧ E' = envL ops out E0 allL (i + l.length) ∧ S' = stL out S0 allL (i + l.length)
  | [], [], i, E, S, E', S', h, _, _, hE, hS => by obtain ⟨rfl, rfl⟩ := h; exact ⟨fun k hk => by simp at hk, hE, hS⟩
  | o :: l, ot :: r, i, E, S, E', S', h, ho, hr, hE, hS => by
    obtain ⟨h1, h2⟩ := h
    have e0 : ops[i]? = some o := by simpa using ho 0 (by simp)
    have e1 : ot = out i := by simpa using hr 0 (by simp)
    have eE : E.put o.dst ot.s = envL ops out E0 allL (i + 1) := by
      unfold envL
      simp only [foldF, if_true, stE, e0]
      rw [hE, e1]; rfl
    have eS : S.out ot = stL out S0 allL (i + 1) := by
      rw [hS, e1]; rfl
    obtain ⟨a, b, c⟩ := Tr.at h2 (fun k hk => by have := ho (k + 1) (by simpa using hk); simpa [Nat.add_assoc, Nat.add_comm 1] using this) (fun k hk => by have := hr (k + 1) (by simpa using hk); simpa [Nat.add_assoc, Nat.add_comm 1] using this) eE eS
    refine ⟨fun k hk => ?_, ?_, ?_⟩
    · cases k with
      | zero =>
        simp only [Nat.add_zero, List.getElem_cons_zero]
        rw [← hE, ← hS, ← e1]; exact h1
      | succ k =>
        have := a k (by simpa using hk)
        simpa [Nat.add_assoc, Nat.add_comm 1] using this
    · rw [b]; congr 1; simp; omega
    · rw [c]; congr 1; simp; omega
  | [], _ :: _, _, _, _, _, _, h, _, _, _, _ => h.elim
  | _ :: _, [], _, _, _, _, _, h, _, _, _, _ => h.elim

/-- A call that may be one that changes the state. -/
def wildAt (ops : Array Oper) (j : Nat) : Bool := loudAt ops.toList j || freeAt ops j
theorem drawLo_loud {j : Nat} (hj : j < ops.size) : drawLo ops j = loudAt ops.toList j := if_pos hj
theorem drawLo_free {j : Nat} : drawLo ops (ops.size + 1 + j) = freeAt ops j := by
  unfold drawLo
  rw [if_neg (by omega), if_neg (by omega)]
  congr 1; omega
theorem wild_loud {j : Nat} {E : Env} {base : Nat} (hj : j < ops.size) (h : (loAt (drawLo ops) ops base j E).loud = true) : loudAt ops.toList j = true ∧ wildAt ops j = true := by
  have : loudAt ops.toList j = true := by rw [← drawLo_loud hj]; exact h
  exact ⟨this, by unfold wildAt; rw [this]; rfl⟩
theorem wild_free {j : Nat} {E : Env} {base : Nat} (h : (loAt (drawLo ops) ops base j E).free) : freeAt ops j = true ∧ OldT (oldOf ops j) base E ∧ wildAt ops j = true := by
  have h1 : freeAt ops j = true := by rw [← drawLo_free]; exact h.2.1
  exact ⟨h1, h.2.2, by unfold wildAt; rw [h1, Bool.or_true]⟩
/-- What is given: the trace in the text's order. -/
structure Given (P : Program) (ops : Array Oper) (sp : Spl) (ol : Old) (E0 : Env) (S0 : St) (base : Nat) (out : Nat → Out) : Prop where
  ok : DrawOk P ops sp ol
  step : ∀ k (h : k < ops.size), Step1 (loAt (drawLo ops) ops base k (envL ops out E0 allL k)) P ops (base + k) ops[k] (envL ops out E0 allL k) (stL out S0 allL k) (out k)
  few : S0.n ≤ globalsAt
  sep : SepT sp E0
  old : OldT ol base E0

/-- The listed ones have all that come before them. -/
def Shut (ops : Array Oper) (L : Nat → Bool) : Prop := ∀ i (h : i < ops.size), L i = true → ∀ e ∈ (ops[i]).after.toList, Region.binds .any e = true → L e.on = true

theorem Shut.anc {L : Nat → Bool} (hs : Shut ops L) {i j : Nat} (hi : i < ops.size) (hL : ∀ e ∈ (ops[i]).after.toList, Region.binds .any e = true → L e.on = true) (h : anc ops.toList i j = true) : L j = true := by
  induction i using Nat.strongRecOn with
  | _ i ih =>
    obtain ⟨e, h1, h2, h3⟩ := anc_step (by simpa using hi) h
    have hle := hL e (by simpa using h1) h2
    rcases h3 with h3 | ⟨hlt, h3⟩
    · rw [← h3]; exact hle
    · exact ih e.on hlt (by omega) (hs e.on (by omega) hle) h3

variable {L : Nat → Bool}

/-- Of two that are ordered, the one ahead of i is listed, the one behind it is not. -/
theorem cmp_listed (g : DrawOk P ops sp ol) (hs : Shut ops L) {i j : Nat} (hi : i < ops.size) (hj : j < ops.size) (hLi : L i = false) (hp : ∀ e ∈ (ops[i]).after.toList, Region.binds .any e = true → L e.on = true) (hc : cmp ops.toList i j = true ∨ cmp ops.toList j i = true) (hne : i ≠ j) : L j = decide (j < i) := by
  have hc' : anc ops.toList i j = true ∨ anc ops.toList j i = true := by
    unfold cmp at hc
    simp only [Bool.or_eq_true] at hc
    rcases hc with h | h
    · exact h
    · exact h.symm
  rcases hc' with h | h
  · have := anc_lt g hi h
    rw [Shut.anc hs hi hp h]; simp [this]
  · have hlt := anc_lt g hj h
    have : L j = false := by
      cases hb : L j with
      | false => rfl
      | true =>
        have := Shut.anc hs hj (hs j hj hb) h
        rw [hLi] at this; cases this
    rw [this]; simp; omega

/-- Of two, one of which is behind i: if it is listed they are not ordered. -/
theorem not_cmp (g : DrawOk P ops sp ol) (hs : Shut ops L) {i j : Nat} (hi : i < ops.size) (hj : j < ops.size) (hLi : L i = false) (hLj : L j = true) (hlt : i < j) : cmp ops.toList j i = false ∧ cmp ops.toList i j = false := by
  have a : anc ops.toList j i = false := by
    cases hb : anc ops.toList j i with
    | false => rfl
    | true =>
      have := Shut.anc hs hj (hs j hj hLj) hb
      rw [hLi] at this; cases this
  have b : anc ops.toList i j = false := by
    cases hb : anc ops.toList i j with
    | false => rfl
    | true =>
      have := anc_lt g hi hb
      omega
  unfold cmp
  simp [a, b]

theorem stE_at (j k : Nat) (E : Env) : stE ops out j E k = if ((ops[j]?).bind (·.dst)) = some k then some (out j).s else E k := by
  unfold stE
  cases ho : ops[j]? with
  | none => simp
  | some o =>
    obtain ⟨dst, op, ty, pos, after, guard⟩ := o
    simp only [Option.bind_some]
    cases dst with
    | none => simp [Env.put]
    | some d =>
      simp only [Env.put, Option.some.injEq]
      by_cases e : d = k
      · subst e; simp [upd_same]
      · rw [upd_ne _ _ (fun h => e h.symm), if_neg e]

/-- Slot k in an environment that came of L. -/
theorem envL_at (k n : Nat) : envL ops out E0 L n k = foldF (fun j x => if ((ops[j]?).bind (·.dst)) = some k then some (out j).s else x) L n (E0 k) := by
  unfold envL
  induction n with
  | zero => rfl
  | succ n ih =>
    simp only [foldF]
    split
    · rw [stE_at, ih]
    · exact ih

/-- What a slot that operation i looks at holds is what it held in the text's order. -/
theorem slot_same (g : Given P ops sp ol E0 S0 base out) (hs : Shut ops L) {i : Nat} (hi : i < ops.size) (hLi : L i = false) (hp : ∀ e ∈ (ops[i]).after.toList, Region.binds .any e = true → L e.on = true) {k : Nat} (hk : k ∈ looksAt ops ops[i]) :
    envL ops out E0 L ops.size k = envL ops out E0 allL i k := by
  rw [envL_at, envL_at, ← foldF_lt (k := i) (n := ops.size) (by omega)]
  refine foldF_congr fun j hj => ?_
  by_cases hd : (ops[j]?).bind (·.dst) = some k
  · refine .inr ?_
    have hd' : (ops[j]).dst = some k := by rw [Array.getElem?_eq_getElem hj] at hd; simpa using hd
    rcases Nat.lt_trichotomy j i with h | h | h
    · rcases g.ok.pair i j hi hj h with hc | ⟨h1, _, _⟩
      · exact cmp_listed g.ok hs hi hj hLi hp (.inl hc) (by omega)
      · exact absurd hk (h1 k hd')
    · subst h; rw [hLi]; simp
    · rcases g.ok.pair j i hj hi h with hc | ⟨_, h2, _⟩
      · exact cmp_listed g.ok hs hi hj hLi hp (.inr hc) (by omega)
      · exact absurd hk (h2 k hd')
  · exact .inl fun y => if_neg hd

theorem glob_same (g : Given P ops sp ol E0 S0 base out) {k : Nat} (hk : globalsAt ≤ k) (L M : Nat → Bool) (n m : Nat) (hn : n ≤ ops.size) (hm : m ≤ ops.size) : envL ops out E0 L n k = envL ops out E0 M m k := by
  have key : ∀ (L : Nat → Bool) n, n ≤ ops.size → envL ops out E0 L n k = E0 k := by
    intro L n hn
    rw [envL_at]
    induction n with
    | zero => rfl
    | succ n ih =>
      have hne : ¬ ((ops[n]?).bind (·.dst) = some k) := by
        rw [Array.getElem?_eq_getElem (by omega)]
        intro e
        have h1 := dstOk_ok (g.step n (by omega)).1 k (by simpa using e)
        have h2 : (stL out S0 allL n).n = S0.n := rfl
        have := g.few
        omega
      simp only [foldF, if_neg hne]
      split <;> exact ih (by omega)
  rw [key L n hn, key M m hm]

/-- An operand of i is what it was in the text's order. -/
theorem operand_same (g : Given P ops sp ol E0 S0 base out) (hs : Shut ops L) {i : Nat} (hi : i < ops.size) (hLi : L i = false) (hp : ∀ e ∈ (ops[i]).after.toList, Region.binds .any e = true → L e.on = true) {x : Operand} (hx : x ∈ (ops[i]).op.operands) :
    evalO (envL ops out E0 L ops.size) x = evalO (envL ops out E0 allL i) x := by
  cases x with
  | tmp t => simp only [evalO, slot_same g hs hi hLi hp (looksAt_operand hx)]
  | const c => rfl
  | func f => rfl
  | global gl => exact glob_same g (by omega) _ _ _ _ (Nat.le_refl _) (by omega)

/-- Where an operation leaves the variables alone. -/
theorem fB_id (g : Given P ops sp ol E0 S0 base out) {j : Nat} (hj : j < ops.size) (h : (memOf (ops[j]).op).wB = false) (hl : wildAt ops j = true → isCall (ops[j]).op = false) : ∀ B, (out j).fB B = B := by
  obtain ⟨_, hw, ht, hf⟩ := g.step j hj
  intro B
  cases hb : (out j).w with
  | false => rw [hf hb]
  | true =>
    have := ht hb
    generalize out j = ot at *
    cases this with
    | op hc he =>
      rename_i s e
      have k := evalOp_eff he
      cases e with
      | no => rfl
      | new cs => have := k.new cs rfl; rw [h] at this; cases this
      | set b cs => have := (k.set b cs rfl).1; rw [h] at this; cases this
      | tip i k sz => rfl
      | mov b cs => have := (k.mov b cs rfl).1; rw [h] at this; cases this
    | call => rfl
    | inv => rfl
    | dyn => rfl
    | loud h1 hc ha hlc =>
      have := hl (wild_loud hj h1).2
      unfold isCall at this
      rw [hc] at this; cases this
    | own h1 hc ha hlc => 
      have := hl (wild_free h1).2.2
      unfold isCall at this
      rw [hc] at this; cases this

theorem fT_id (g : Given P ops sp ol E0 S0 base out) {j : Nat} (hj : j < ops.size) (h : (memOf (ops[j]).op).wT = false) (hl : wildAt ops j = true → isCall (ops[j]).op = false) : ∀ T, (out j).fT T = T := by
  obtain ⟨_, hw, ht, hf⟩ := g.step j hj
  intro T
  cases hb : (out j).w with
  | false => rw [hf hb]
  | true =>
    have := ht hb
    generalize out j = ot at *
    cases this with
    | op hc he =>
      rename_i s e
      have k := evalOp_eff he
      cases e with
      | no => rfl
      | new cs => rfl
      | set b cs => rfl
      | tip i k' sz => have := (k.tip i k' sz rfl).1; rw [h] at this; cases this
      | mov b cs => rfl
    | call => rfl
    | inv => rfl
    | dyn => rfl
    | loud h1 hc ha hlc =>
      have := hl (wild_loud hj h1).2
      unfold isCall at this
      rw [hc] at this; cases this
    | own h1 hc ha hlc => rfl

theorem fx_id (g : Given P ops sp ol E0 S0 base out) {j : Nat} (hj : j < ops.size) (hl : wildAt ops j = true → isCall (ops[j]).op = false) : ∀ x, (out j).fx x = x := by
  obtain ⟨_, hw, ht, hf⟩ := g.step j hj
  intro x
  cases hb : (out j).w with
  | false => rw [hf hb]
  | true =>
    have := ht hb
    generalize out j = ot at *
    cases this with
    | op hc he => rfl
    | call => rfl
    | inv => rfl
    | dyn => rfl
    | loud h1 hc ha hlc =>
      have := hl (wild_loud hj h1).2
      unfold isCall at this
      rw [hc] at this; cases this
    | own h1 hc ha hlc => 
      have := hl (wild_free h1).2.2
      unfold isCall at this
      rw [hc] at this; cases this

theorem loud_cmp {i j : Nat} (hl : loudAt ops.toList i = true) (hj : j < ops.size) (hne : j ≠ i) (h : isCall (ops[j]).op = true ∨ touches (ops[j]).op = true) : cmp ops.toList i j = true := by
  unfold loudAt at hl
  simp only [Bool.and_eq_true] at hl
  have := List.all_eq_true.1 hl.2 j (List.mem_range.2 (by simpa using hj))
  simp only [Bool.or_eq_true, beq_iff_eq] at this
  rcases this with (h1 | h1) | h1
  · exact absurd h1 hne
  · exact h1
  · simp [hj] at h1
    rcases h with h | h
    · rw [h1.1] at h; cases h
    · rw [h1.2] at h; cases h

theorem wild_cmp {i j : Nat} (hl : wildAt ops i = true) (hj : j < ops.size) (hne : j ≠ i) (h : isCall (ops[j]).op = true ∨ touches (ops[j]).op = true) : cmp ops.toList i j = true ∨ isNew (ops[j]).op = true ∨ (isLoad (ops[j]).op = true ∧ rootFree ops j = true ∧ freeAt ops i = true) := by
  unfold wildAt at hl
  rcases Bool.or_eq_true_iff.1 hl with hl | hl
  · exact .inl (loud_cmp hl hj hne h)
  · have hf := hl
    unfold freeAt at hl
    simp only [Bool.and_eq_true] at hl
    have := List.all_eq_true.1 hl.2 j (List.mem_range.2 hj)
    simp only [Bool.or_eq_true, beq_iff_eq] at this
    rcases this with ((h1 | h1) | h1) | h1
    · exact absurd h1 hne
    · exact .inl h1
    · simp [hj] at h1
      rcases h with h | h
      · rw [h1.1] at h; cases h
      · rw [h1.2] at h; cases h
    · simp [hj] at h1
      rcases h1 with h1 | ⟨h1, h2⟩
      · exact .inr (.inl h1)
      · exact .inr (.inr ⟨h1, h2, hf⟩)
theorem touch_of {op : Op} (h : (memOf op).rB = true ∨ (memOf op).wB = true ∨ (memOf op).rT = true ∨ (memOf op).wT = true) : touches op = true := by
  unfold touches
  rcases h with h | h | h | h <;> simp [h]

/-- If j is the same as in the text's order or leaves it alone: for any part of the state. -/
theorem part_same {X : Type} {f : Nat → X → X} {i : Nat} (hi : i < ops.size) (x : X) (h : ∀ j (hj : j < ops.size), (∀ y, f j y = y) ∨ L j = decide (j < i)) : foldF f L ops.size x = foldF f allL i x := by
  rw [← foldF_lt (k := i) (n := ops.size) (by omega)]
  exact foldF_congr fun j hj => h j hj

/-- Is j one that may change the variables, and what follows. -/
theorem B_same (g : Given P ops sp ol E0 S0 base out) (hs : Shut ops L) {i : Nat} (hi : i < ops.size) (hLi : L i = false) (hp : ∀ e ∈ (ops[i]).after.toList, Region.binds .any e = true → L e.on = true)
    (hall : ∀ j (hj : j < ops.size), j ≠ i → ((memOf (ops[j]).op).wB = true ∨ (wildAt ops j = true ∧ isCall (ops[j]).op = true)) → (cmp ops.toList i j = true ∨ cmp ops.toList j i = true) ∨ ∀ y, (out j).fB y = y) : (stL out S0 L ops.size).B = (stL out S0 allL i).B := by
  refine part_same hi _ fun j hj => ?_
  by_cases e : j = i
  · subst e; exact .inr (by rw [hLi]; simp)
  by_cases h1 : (memOf (ops[j]).op).wB = true
  · exact (hall j hj e (.inl h1)).symm.imp id fun k => cmp_listed g.ok hs hi hj hLi hp k (fun h => e h.symm)
  · by_cases h2 : wildAt ops j = true ∧ isCall (ops[j]).op = true
    · exact (hall j hj e (.inr h2)).symm.imp id fun k => cmp_listed g.ok hs hi hj hLi hp k (fun h => e h.symm)
    · exact .inl (fB_id g hj (by simpa using h1) (fun h => by
        cases hb : isCall (ops[j]).op with
        | false => rfl
        | true => exact absurd ⟨h, hb⟩ h2))

theorem T_same (g : Given P ops sp ol E0 S0 base out) (hs : Shut ops L) {i : Nat} (hi : i < ops.size) (hLi : L i = false) (hp : ∀ e ∈ (ops[i]).after.toList, Region.binds .any e = true → L e.on = true)
    (hall : ∀ j (hj : j < ops.size), j ≠ i → ((memOf (ops[j]).op).wT = true ∨ (wildAt ops j = true ∧ isCall (ops[j]).op = true)) → (cmp ops.toList i j = true ∨ cmp ops.toList j i = true) ∨ ∀ y, (out j).fT y = y) : (stL out S0 L ops.size).T = (stL out S0 allL i).T := by
  refine part_same hi _ fun j hj => ?_
  by_cases e : j = i
  · subst e; exact .inr (by rw [hLi]; simp)
  by_cases h1 : (memOf (ops[j]).op).wT = true
  · exact (hall j hj e (.inl h1)).symm.imp id fun k => cmp_listed g.ok hs hi hj hLi hp k (fun h => e h.symm)
  · by_cases h2 : wildAt ops j = true ∧ isCall (ops[j]).op = true
    · exact (hall j hj e (.inr h2)).symm.imp id fun k => cmp_listed g.ok hs hi hj hLi hp k (fun h => e h.symm)
    · exact .inl (fT_id g hj (by simpa using h1) (fun h => by
        cases hb : isCall (ops[j]).op with
        | false => rfl
        | true => exact absurd ⟨h, hb⟩ h2))

theorem x_same (g : Given P ops sp ol E0 S0 base out) (hs : Shut ops L) {i : Nat} (hi : i < ops.size) (hLi : L i = false) (hp : ∀ e ∈ (ops[i]).after.toList, Region.binds .any e = true → L e.on = true)
    (hall : ∀ j (hj : j < ops.size), j ≠ i → (wildAt ops j = true ∧ isCall (ops[j]).op = true) → (cmp ops.toList i j = true ∨ cmp ops.toList j i = true) ∨ ∀ y, (out j).fx y = y) : (stL out S0 L ops.size).nx = (stL out S0 allL i).nx := by
  refine part_same hi _ fun j hj => ?_
  by_cases e : j = i
  · subst e; exact .inr (by rw [hLi]; simp)
  by_cases h2 : wildAt ops j = true ∧ isCall (ops[j]).op = true
  · exact (hall j hj e h2).symm.imp id fun k => cmp_listed g.ok hs hi hj hLi hp k (fun h => e h.symm)
  · exact .inl (fx_id g hj (fun h => by
      cases hb : isCall (ops[j]).op with
      | false => rfl
      | true => exact absurd ⟨h, hb⟩ h2))

/-- Two that clash are ordered, or told apart by their pointers. -/
theorem clash_cmp (g : DrawOk P ops sp ol) {i j : Nat} (hi : i < ops.size) (hj : j < ops.size) (hne : j ≠ i) (h : clash (memOf (ops[i]).op) (memOf (ops[j]).op) = true) (h' : clash (memOf (ops[j]).op) (memOf (ops[i]).op) = true) : (cmp ops.toList i j = true ∨ cmp ops.toList j i = true) ∨ SpHas sp i j ∨ SpHas sp j i ∨ OlHas ol i j := by
  rcases Nat.lt_trichotomy j i with hlt | e | hlt
  · rcases g.pair i j hi hj hlt with hc | ⟨_, _, h3 | h3 | h3⟩
    · exact .inl (.inl hc)
    · rw [h] at h3; cases h3
    · exact .inr (.inl h3)
    · exact .inr (.inr (.inr h3))
  · exact absurd e hne
  · rcases g.pair j i hj hi hlt with hc | ⟨_, _, h3 | h3 | ⟨p, hp, h3⟩⟩
    · exact .inl (.inr hc)
    · rw [h'] at h3; cases h3
    · exact .inr (.inr (.inl h3))
    · exact .inr (.inr (.inr ⟨p, hp, h3.symm⟩))

theorem isNew_mem {op : Op} (h : isNew op = true) : (memOf op).rB = false ∧ (memOf op).rT = false ∧ (memOf op).wT = false ∧ callOf op = none := by
  unfold isNew at h
  split at h
  · exact ⟨rfl, rfl, rfl, rfl⟩
  · exact ⟨rfl, rfl, rfl, rfl⟩
  · cases h

theorem addr_mem {op : Op} {x : Operand} (h : addrX op = some x) : (memOf op).wT = false ∧ (memOf op).rT = false ∧ isCall op = false := by
  unfold addrX at h
  split at h
  · exact ⟨rfl, rfl, rfl⟩
  · exact ⟨rfl, rfl, rfl⟩
  · cases h

theorem refOf_tmp {E : Env} {u b : Nat} {s : SV} (h : evalO E (.tmp u) = some s) (hb : refOf (E u) = some b) : refOf (some s) = some b := by
  simp only [evalO] at h
  split at h
  · rw [← h]; exact hb
  · cases h

/-- What a slot points at is what its root pointed at. -/
theorem rootOf_ok (g : Given P ops sp ol E0 S0 base out) : ∀ {n t s b : Nat}, n ≤ ops.size → rootOf ops n t = some s → refOf (E0 s) = some b → refOf (envL ops out E0 allL n t) = some b
  | 0, t, s, b, _, h, hb => by cases h; exact hb
  | n + 1, t, s, b, hn, h, hb => by
    show refOf (stE ops out n (envL ops out E0 allL n) t) = some b
    have hlt : n < ops.size := by omega
    rw [stE_at]
    unfold rootOf at h
    rw [Array.getElem?_eq_getElem hlt] at h ⊢
    simp only [Option.bind_some] at h ⊢
    by_cases e : (ops[n]).dst = some t
    · rw [if_pos e] at h ⊢
      obtain ⟨_, hw, ht, hf⟩ := g.step n hlt
      have main : (ops[n]).guard = none → (out n).w = true := fun hg => by
        unfold wantS at hw
        rw [hg] at hw
        simpa using hw.symm
      split at h
      · rename_i u hg ho
        have k := ht (main hg)
        have ih := rootOf_ok g (by omega) h hb
        generalize out n = ot at k ⊢
        cases k with
        | op hc he =>
          simp only [evalOp, ho, Option.map_eq_some_iff, Prod.mk.injEq] at he
          obtain ⟨s', h1, rfl, _⟩ := he
          exact refOf_tmp h1 ih
        | call hc => rw [ho] at hc; cases hc
        | inv hc => rw [ho] at hc; cases hc
        | dyn hc => rw [ho] at hc; cases hc
        | loud hl hc => rw [ho] at hc; cases hc
        | own hl hc => rw [ho] at hc; cases hc
      · rename_i T u k' hg ho
        have k := ht (main hg)
        have ih := rootOf_ok g (by omega) h hb
        generalize out n = ot at k ⊢
        cases k with
        | op hc he =>
          simp only [evalOp, ho] at he
          split at he
          · rename_i h1 h2
            have := refOf_tmp h1 ih
            cases this
          · rename_i h1 h2
            have := refOf_tmp h1 ih
            simp only [refOf, Option.some.injEq] at this
            simp only [Option.some.injEq, Prod.mk.injEq] at he
            obtain ⟨rfl, _⟩ := he
            simp only [refOf, this]
          · cases he
        | call hc => rw [ho] at hc; cases hc
        | inv hc => rw [ho] at hc; cases hc
        | dyn hc => rw [ho] at hc; cases hc
        | loud hl hc => rw [ho] at hc; cases hc
        | own hl hc => rw [ho] at hc; cases hc
      · cases h
    · rw [if_neg e] at h ⊢
      exact rootOf_ok g (by omega) h hb

/-- What one whose pointer is known does with the variables. -/
theorem at_form (g : Given P ops sp ol E0 S0 base out) {x : Nat × Nat} (hx : SpAt ops x) {b : Nat} (hb0 : refOf (E0 x.2) = some b) : (∀ B, (out x.1).fB B = B) ∨ ∃ cs, ∀ B, (out x.1).fB B = upd B b cs := by
  obtain ⟨hi, t, ha, hg, hl⟩ := hx
  have hs := rootOf_ok g (by omega) hl hb0
  obtain ⟨_, hw, ht, hf⟩ := g.step x.1 hi
  cases hb : (out x.1).w with
  | false => rw [hf hb]; exact .inl fun _ => rfl
  | true =>
    have := ht hb
    have hcl := (addr_mem ha).2.2
    generalize out x.1 = ot at this ⊢
    cases this with
    | op hc he =>
      rename_i s e
      cases e with
      | no => exact .inl fun _ => rfl
      | new cs =>
        have := (evalOp_eff he).new cs rfl
        unfold addrX at ha
        split at ha
        · rename_i h; rw [h] at this; cases this
        · rename_i T z y h
          unfold evalOp at he
          rw [h] at he
          simp only at he
          split at he
          · split at he
            · obtain ⟨_, h5⟩ := onlyIf_ok he
              simp only [Prod.mk.injEq] at h5
              cases h5.2
            · cases he
          · cases he
        · cases ha
      | set b1 cs =>
        refine .inr ⟨cs, fun _ => ?_⟩
        unfold addrX at ha
        split at ha
        · rename_i h
          have := ((evalOp_eff he).set b1 cs rfl).1
          rw [h] at this; cases this
        · rename_i T z y h
          cases ha
          unfold evalOp at he
          rw [h] at he
          simp only at he
          split at he
          · rename_i b' off s' n' h6 h7 h8
            split at he
            · obtain ⟨_, h5⟩ := onlyIf_ok he
              simp only [Prod.mk.injEq, Eff.set.injEq] at h5
              obtain ⟨_, rfl, _⟩ := h5
              have := refOf_tmp h6 hs
              simp only [refOf, Option.some.injEq] at this
              rw [this]; rfl
            · cases he
          · cases he
        · cases ha
      | tip i k sz => exact .inl fun _ => rfl
      | mov b1 cs =>
        have := (evalOp_eff he).mov b1 cs rfl
        unfold addrX at ha
        split at ha
        · rename_i h; rw [h] at this; cases this.1
        · rename_i T z y h
          unfold evalOp at he
          rw [h] at he
          simp only at he
          split at he
          · split at he
            · obtain ⟨_, h5⟩ := onlyIf_ok he
              simp only [Prod.mk.injEq] at h5
              cases h5.2
            · cases he
          · cases he
        · cases ha
    | call => exact .inl fun _ => rfl
    | inv => exact .inl fun _ => rfl
    | dyn => exact .inl fun _ => rfl
    | loud h1 hc =>
      unfold isCall at hcl
      rw [hc] at hcl; cases hcl
    | own h1 hc =>
      unfold isCall at hcl
      rw [hc] at hcl; cases hcl

/-- What operation x reads is not what operation y writes. -/
theorem sep_far (g : Given P ops sp ol E0 S0 base out) {x y : Nat × Nat} (hx : SpAt ops x) (hy : SpAt ops y) (h : apart (refOf (E0 x.2)) (refOf (E0 y.2))) :
    ∃ b, addrB (envL ops out E0 allL x.1) ((ops[x.1]?).map (·.op)).get! = some b ∧ ∀ B, (out y.1).fB B b = B b := by
  obtain ⟨hi, t, ha, hg, hl⟩ := id hx
  cases hb : refOf (E0 x.2) with
  | none => rw [hb] at h; exact h.elim
  | some b =>
    refine ⟨b, ?_, fun B => ?_⟩
    · rw [Array.getElem?_eq_getElem hi]
      simp only [Option.map_some, Option.get!_some, addrB, ha, evalO, if_pos hg]
      exact rootOf_ok g (by omega) hl hb
    · rw [hb] at h
      cases hc : refOf (E0 y.2) with
      | none => rw [hc] at h; exact h.elim
      | some c =>
        rw [hc] at h
        rcases at_form g hy hc with k | ⟨cs, k⟩
        · rw [k]
        · rw [k]; exact upd_ne _ _ h

/-- What one that makes a new variable does with the variables. -/
theorem new_form (g : Given P ops sp ol E0 S0 base out) {j : Nat} (hj : NewAt ops j) : (∀ B, (out j).fB B = B) ∨ ∃ cs, ∀ B, (out j).fB B = upd B (base + j) cs := by
  obtain ⟨hlt, hn⟩ := hj
  obtain ⟨_, hw, ht, hf⟩ := g.step j hlt
  cases hb : (out j).w with
  | false => rw [hf hb]; exact .inl fun _ => rfl
  | true =>
    have := ht hb
    have hc0 := (isNew_mem hn).2.2.2
    generalize out j = ot at this ⊢
    cases this with
    | op hc he =>
      rename_i s e
      cases e with
      | no => exact .inl fun _ => rfl
      | new cs => exact .inr ⟨cs, fun _ => rfl⟩
      | tip i k sz => exact .inl fun _ => rfl
      | set b cs =>
        have := ((evalOp_eff he).set b cs rfl).2
        unfold isNew at hn
        split at hn
        · rename_i h; rw [h] at this; cases this
        · rename_i h; rw [h] at this; cases this
        · cases hn
      | mov b cs =>
        have := ((evalOp_eff he).mov b cs rfl).2
        unfold isNew at hn
        split at hn
        · rename_i h; rw [h] at this; cases this
        · rename_i h; rw [h] at this; cases this
        · cases hn
    | call hc => rw [hc0] at hc; cases hc
    | inv hc => rw [hc0] at hc; cases hc
    | dyn hc => rw [hc0] at hc; cases hc
    | loud h1 hc => rw [hc0] at hc; cases hc
    | own h1 hc => rw [hc0] at hc; cases hc
theorem old_far (g : Given P ops sp ol E0 S0 base out) {p : (Nat × Nat) × Nat} (hm : p ∈ ol) :
    ∃ b, addrB (envL ops out E0 allL p.1.1) ((ops[p.1.1]?).map (·.op)).get! = some b ∧ b < base ∧ ∀ B, (out p.2).fB B b = B b := by
  obtain ⟨⟨hi, t, ha, hg, hl⟩, hn⟩ := g.ok.olOk p hm
  have hbl := OldT.of g.old p hm
  cases hb : refOf (E0 p.1.2) with
  | none => rw [hb] at hbl; exact hbl.elim
  | some b =>
    rw [hb] at hbl
    have hbl : b < base := hbl
    refine ⟨b, ?_, hbl, fun B => ?_⟩
    · rw [Array.getElem?_eq_getElem hi]
      simp only [Option.map_some, Option.get!_some, addrB, ha, evalO, if_pos hg]
      exact rootOf_ok g (by omega) hl hb
    · rcases new_form g hn with k | ⟨cs, k⟩
      · rw [k]
      · rw [k]; exact upd_ne _ _ (by omega)

theorem apart_symm {a b : Option Nat} (h : apart a b) : apart b a := by
  cases a <;> cases b
  all_goals first | exact h.elim | exact fun e => h e.symm

/-- If j is the same as in the text's order or leaves variable b alone. -/
theorem foldF_at {α β : Type} {f : Nat → (α → β) → (α → β)} {L M : Nat → Bool} {b : α} {x : α → β} : ∀ {n : Nat}, (∀ j, j < n → ∀ y z : α → β, y b = z b → f j y b = f j z b) → (∀ j, j < n → (∀ y, f j y b = y b) ∨ L j = M j) → foldF (X := α → β) f L n x b = foldF (X := α → β) f M n x b := by
  intro n
  induction n with
  | zero => intro _ _; rfl
  | succ n ih0 =>
    intro hp h
    have ih := ih0 (fun j hj => hp j (by omega)) (fun j hj => h j (by omega))
    show (if L n = true then f n (foldF f L n x) else foldF f L n x) b = (if M n = true then f n (foldF f M n x) else foldF f M n x) b
    rcases h n (by omega) with h1 | h1
    · by_cases a : L n = true <;> by_cases c : M n = true
      · rw [if_pos a, if_pos c, h1, h1]; exact ih
      · rw [if_pos a, if_neg c, h1]; exact ih
      · rw [if_neg a, if_pos c, h1]; exact ih
      · rw [if_neg a, if_neg c]; exact ih
    · rw [h1]
      by_cases c : M n = true
      · rw [if_pos c, if_pos c]; exact hp n (by omega) _ _ ih
      · rw [if_neg c, if_neg c]; exact ih

theorem fB_pw (g : Given P ops sp ol E0 S0 base out) {j : Nat} (hj : j < ops.size) {b : Nat} {y z : Nat → Option (List SV)} (h : y b = z b) : (out j).fB y b = (out j).fB z b := by
  obtain ⟨_, hw, ht, hf⟩ := g.step j hj
  cases hb : (out j).w with
  | false => rw [hf hb]; exact h
  | true =>
    have := ht hb
    generalize out j = ot at *
    cases this with
    | op hc he =>
      rename_i s e
      cases e with
      | no => exact h
      | new cs => simp only [effB, upd]; split <;> first | rfl | exact h
      | set b cs => simp only [effB, upd]; split <;> first | rfl | exact h
      | tip i k sz => exact h
      | mov b' cs =>
        simp only [effB, upd]
        split
        · rfl
        · split
          · rfl
          · exact h
    | call => exact h
    | inv => exact h
    | dyn => exact h
    | loud => rfl
    | own h1 hc ha hlc => exact hlc.pw _ _ _ h

theorem B_same_at (g : Given P ops sp ol E0 S0 base out) (hs : Shut ops L) {i b : Nat} (hi : i < ops.size) (hLi : L i = false) (hp : ∀ e ∈ (ops[i]).after.toList, Region.binds .any e = true → L e.on = true)
    (hall : ∀ j (hj : j < ops.size), j ≠ i → ((memOf (ops[j]).op).wB = true ∨ (wildAt ops j = true ∧ isCall (ops[j]).op = true)) → (cmp ops.toList i j = true ∨ cmp ops.toList j i = true) ∨ ∀ B, (out j).fB B b = B b) : (stL out S0 L ops.size).B b = (stL out S0 allL i).B b := by
  show foldF _ L ops.size S0.B b = foldF _ allL i S0.B b
  rw [← foldF_lt (k := i) (n := ops.size) (by omega)]
  refine foldF_at (fun j hj y z h => fB_pw g hj h) fun j hj => ?_
  by_cases e : j = i
  · subst e; exact .inr (by rw [hLi]; simp)
  have quiet : ((memOf (ops[j]).op).wB = true ∨ (wildAt ops j = true ∧ isCall (ops[j]).op = true)) ∨ ∀ B, (out j).fB B = B := by
    by_cases h1 : (memOf (ops[j]).op).wB = true
    · exact .inl (.inl h1)
    · by_cases h2 : wildAt ops j = true ∧ isCall (ops[j]).op = true
      · exact .inl (.inr h2)
      · exact .inr (fB_id g hj (by simpa using h1) (fun h => by
          cases hb : isCall (ops[j]).op with
          | false => rfl
          | true => exact absurd ⟨h, hb⟩ h2))
  rcases quiet with q | q
  · rcases hall j hj e q with h | h
    · exact .inr (cmp_listed g.ok hs hi hj hLi hp h (fun h => e h.symm))
    · exact .inl h
  · exact .inl fun y => by rw [q]

theorem clash_rB {a b : Mem} (h : a.rB = true) (k : b.wB = true) : clash a b = true ∧ clash b a = true := by constructor <;> simp [clash, h, k]
theorem clash_rT {a b : Mem} (h : a.rT = true) (k : b.wT = true) : clash a b = true ∧ clash b a = true := by constructor <;> simp [clash, h, k]

/-- What a call that may change the state has done. -/
theorem wild_form (g : Given P ops sp ol E0 S0 base out) {j : Nat} (hj : j < ops.size) (hcall : isCall (ops[j]).op = true) : ((∀ B, (out j).fB B = B) ∧ (∀ T, (out j).fT T = T)) ∨ loudAt ops.toList j = true ∨
    (freeAt ops j = true ∧ OldT (oldOf ops j) base (envL ops out E0 allL j) ∧ (∀ T, (out j).fT T = T) ∧ (∀ B q cs, q < base + ops.size → (out j).fB (upd B q cs) = upd ((out j).fB B) q cs) ∧ ∀ B b, b < base + ops.size → (out j).fB B b = B b) := by
  obtain ⟨_, hw, ht, hf⟩ := g.step j hj
  cases hb : (out j).w with
  | false => rw [hf hb]; exact .inl ⟨fun _ => rfl, fun _ => rfl⟩
  | true =>
    have := ht hb
    generalize out j = ot at *
    cases this with
    | op hc he => unfold isCall at hcall; rw [hc] at hcall; cases hcall
    | call => exact .inl ⟨fun _ => rfl, fun _ => rfl⟩
    | inv => exact .inl ⟨fun _ => rfl, fun _ => rfl⟩
    | dyn => exact .inl ⟨fun _ => rfl, fun _ => rfl⟩
    | loud h1 hc ha hlc => exact .inr (.inl (wild_loud hj h1).1)
    | own h1 hc ha hlc => exact .inr (.inr ⟨(wild_free h1).1, (wild_free h1).2.1, fun _ => rfl, hlc.loc, hlc.keep⟩)
theorem isLoad_mem {op : Op} (h : isLoad op = true) : (memOf op).wB = false ∧ (memOf op).rT = false ∧ (memOf op).wT = false ∧ callOf op = none := by
  unfold isLoad at h
  split at h
  · exact ⟨rfl, rfl, rfl, rfl⟩
  · cases h
theorem cmp_symm {l : List Oper} (i j : Nat) : cmp l i j = cmp l j i := by unfold cmp; exact Bool.or_comm _ _
/-- What reads beside such a call reads what was there before the region. -/
theorem load_old (g : Given P ops sp ol E0 S0 base out) {i j : Nat} (hi : i < ops.size) (hj : j < ops.size) (hne : j ≠ i) (hl : isLoad (ops[i]).op = true) (hr : rootFree ops i = true) (ho : OldT (oldOf ops j) base (envL ops out E0 allL j)) (hn : cmp ops.toList i j = false) :
    ∃ b, addrB (envL ops out E0 allL i) (ops[i]).op = some b ∧ b < base := by
  unfold rootFree at hr
  split at hr
  · rename_i s hs0
    have hs := hs0
    unfold rootAt at hs
    rw [Array.getElem?_eq_getElem hi] at hs
    simp only at hs
    split at hs
    · rename_i t ht
      split at hs
      · rename_i hg
        have hm : ((i, s), j) ∈ oldOf ops j := by
          unfold oldOf
          refine List.mem_filterMap.2 ⟨i, List.mem_range.2 hi, ?_⟩
          rw [if_neg (by rw [cmp_symm, hn]; simp; omega), if_pos (by simp [hi, hl]), hs0]
          rfl
        have hb := OldT.of ho _ hm
        have hE : envL ops out E0 allL j s = E0 s := by
          rw [envL_at]
          have : ∀ (n : Nat), n ≤ ops.size → foldF (fun j x => if ((ops[j]?).bind (·.dst)) = some s then some (out j).s else x) allL n (E0 s) = E0 s := by
            intro n
            induction n with
            | zero => intro _; rfl
            | succ n ih =>
              intro hle
              simp only [foldF, if_true]
              have hd : ¬ ((ops[n]?).bind (·.dst)) = some s := by
                rw [Array.getElem?_eq_getElem (by omega)]
                have := List.all_eq_true.1 hr ops[n] (by simp)
                simpa using this
              rw [if_neg hd]
              exact ih (by omega)
          exact this j (by omega)
        simp only at hb
        rw [hE] at hb
        cases hc : refOf (E0 s) with
        | none => rw [hc] at hb; exact hb.elim
        | some b =>
          rw [hc] at hb
          refine ⟨b, ?_, hb⟩
          simp only [addrB, ht, evalO, if_pos hg]
          exact rootOf_ok g (by omega) hs hc
      · cases hs
    · cases hs
  · cases hr

/-- Operation i does, when its turn comes, what it did in the text's order. -/
theorem step_same (g : Given P ops sp ol E0 S0 base out) (hs : Shut ops L) {i : Nat} (hi : i < ops.size) (hLi : L i = false) (hp : ∀ e ∈ (ops[i]).after.toList, Region.binds .any e = true → L e.on = true) :
    Step1 (loAt (drawLo ops) ops base i (envL ops out E0 allL i)) P ops (base + i) ops[i] (envL ops out E0 L ops.size) (stL out S0 L ops.size) (out i) := by
  obtain ⟨hd, hw, ht, hf⟩ := g.step i hi
  have hargs : ∀ xs : List Operand, (∀ x ∈ xs, x ∈ (ops[i]).op.operands) → argsS (envL ops out E0 L ops.size) xs = argsS (envL ops out E0 allL i) xs := fun xs hx => argsS_congr fun x hm => operand_same g hs hi hLi hp (hx x hm)
  have ofLoud : ∀ j (hj : j < ops.size), j ≠ i → touches (ops[i]).op = true ∨ isCall (ops[i]).op = true → (wildAt ops j = true ∧ isCall (ops[j]).op = true) → (cmp ops.toList i j = true ∨ cmp ops.toList j i = true) ∨ isNew (ops[i]).op = true ∨ (isLoad (ops[i]).op = true ∧ rootFree ops i = true) := fun j hj hne h1 h2 => by
    rcases wild_cmp h2.1 hi (fun h => hne h.symm) h1.symm with h | h | h
    · exact .inl (.inr h)
    · exact .inr (.inl h)
    · exact .inr (.inr ⟨h.1, h.2.1⟩)
  have ofCall : ∀ j (hj : j < ops.size), j ≠ i → isCall (ops[i]).op = true → (wildAt ops j = true ∧ isCall (ops[j]).op = true) → cmp ops.toList i j = true ∨ cmp ops.toList j i = true := fun j hj hne h1 h2 => by
    have hci : callOf (ops[i]).op ≠ none := fun e => by unfold isCall at h1; rw [e] at h1; cases h1
    rcases ofLoud j hj hne (.inr h1) h2 with h | h | h
    · exact h
    · exact absurd (isNew_mem h).2.2.2 hci
    · exact absurd (isLoad_mem h.1).2.2.2 hci
  refine ⟨hd, ?_, fun hb => ?_, hf⟩
  · rw [← hw]
    exact wantS_congr fun gi w d h1 h2 => by simp only [evalO, slot_same g hs hi hLi hp (looksAt_guard h1 h2)]
  · have := ht hb
    generalize hot : out i = ot at this ⊢
    cases this with
    | op hc he =>
      refine .op hc ?_
      rw [← he]
      refine evalOp_congr (fun x hx => operand_same g hs hi hLi hp hx) (fun hr => ?_) (fun hr => ?_) rfl rfl
      · have ofW : ∀ j (hj : j < ops.size), j ≠ i → (wildAt ops j = true ∧ isCall (ops[j]).op = true) → ((cmp ops.toList i j = true ∨ cmp ops.toList j i = true) ∨ ∀ B, (out j).fB B = B) ∨ (∃ b, addrB (envL ops out E0 allL i) (ops[i]).op = some b ∧ ∀ B, (out j).fB B b = B b) := fun j hj hne h => by
          rcases wild_form g hj h.2 with h1 | h1 | ⟨_, h2, _, _, h5⟩
          · exact .inl (.inr h1.1)
          · exact .inl (.inl (.inr (loud_cmp h1 hi (fun e => hne e.symm) (.inr (touch_of (.inl hr))))))
          · rcases ofLoud j hj hne (.inl (touch_of (.inl hr))) h with k | k | k
            · exact .inl (.inl k)
            · rw [(isNew_mem k).1] at hr; cases hr
            · cases hn : cmp ops.toList i j with
              | true => exact .inl (.inl (.inl rfl))
              | false =>
                obtain ⟨b, k1, k2⟩ := load_old g hi hj hne k.1 k.2 h2 hn
                exact .inr ⟨b, k1, fun B => h5 B b (by omega)⟩
        by_cases hsp : (∃ p ∈ sp, p.1.1 = i ∨ p.2.1 = i) ∨ (∃ p ∈ ol, p.1.1 = i) ∨ ∃ b, addrB (envL ops out E0 allL i) (ops[i]).op = some b
        · refine .inr ?_
          have key : ∀ p ∈ sp, (p.1.1 = i → ∃ b, addrB (envL ops out E0 allL i) (ops[i]).op = some b ∧ ∀ B, (out p.2.1).fB B b = B b) ∧ (p.2.1 = i → ∃ b, addrB (envL ops out E0 allL i) (ops[i]).op = some b ∧ ∀ B, (out p.1.1).fB B b = B b) := fun p hm => by
            obtain ⟨s1, s2⟩ := g.ok.spOk p hm
            have ap := SepT.of g.sep p hm
            refine ⟨fun e => ?_, fun e => ?_⟩
            · have := sep_far g s1 s2 ap
              simpa only [e, Array.getElem?_eq_getElem hi, Option.map_some, Option.get!_some] using this
            · have := sep_far g s2 s1 (apart_symm ap)
              simpa only [e, Array.getElem?_eq_getElem hi, Option.map_some, Option.get!_some] using this
          have keyO : ∀ p ∈ ol, p.1.1 = i → ∃ b, addrB (envL ops out E0 allL i) (ops[i]).op = some b ∧ ∀ B, (out p.2).fB B b = B b := fun p hm e => by
            obtain ⟨b, h1, _, h3⟩ := old_far g hm
            refine ⟨b, ?_, h3⟩
            simpa only [e, Array.getElem?_eq_getElem hi, Option.map_some, Option.get!_some] using h1
          obtain ⟨b, hb1⟩ : ∃ b, addrB (envL ops out E0 allL i) (ops[i]).op = some b := by
            rcases hsp with ⟨p, hm, e | e⟩ | ⟨p, hm, e⟩ | h
            · obtain ⟨b, h, _⟩ := (key p hm).1 e; exact ⟨b, h⟩
            · obtain ⟨b, h, _⟩ := (key p hm).2 e; exact ⟨b, h⟩
            · obtain ⟨b, h, _⟩ := keyO p hm e; exact ⟨b, h⟩
            · exact h
          refine ⟨b, hb1, B_same_at g hs hi hLi hp fun j hj hne h => ?_⟩
          rcases h with h | h
          · rcases clash_cmp g.ok hi hj hne (clash_rB hr h).1 (clash_rB hr h).2 with h | ⟨p, hm, e1, e2⟩ | ⟨p, hm, e1, e2⟩ | ⟨p, hm, ⟨e1, e2⟩ | ⟨e1, e2⟩⟩
            · exact .inl h
            · obtain ⟨c, h1, h2⟩ := (key p hm).1 e1
              rw [hb1] at h1; cases h1
              rw [← e2]; exact .inr h2
            · obtain ⟨c, h1, h2⟩ := (key p hm).2 e2
              rw [hb1] at h1; cases h1
              rw [← e1]; exact .inr h2
            · obtain ⟨c, h1, h2⟩ := keyO p hm e1
              rw [hb1] at h1; cases h1
              rw [← e2]; exact .inr h2
            · obtain ⟨_, hn⟩ := (g.ok.olOk p hm).2
              simp only [e2] at hn
              rw [(isNew_mem hn).1] at hr; cases hr
          · rcases ofW j hj hne h with (h | h) | ⟨c, h1, h2⟩
            · exact .inl h
            · exact .inr fun B => by rw [h]
            · rw [hb1] at h1; cases h1
              exact .inr h2
        · exact .inl (B_same g hs hi hLi hp fun j hj hne h => by
            rcases h with h | h
            · rcases clash_cmp g.ok hi hj hne (clash_rB hr h).1 (clash_rB hr h).2 with h | ⟨p, hm, e1, e2⟩ | ⟨p, hm, e1, e2⟩ | ⟨p, hm, ⟨e1, e2⟩ | ⟨e1, e2⟩⟩
              · exact .inl h
              · exact absurd (.inl ⟨p, hm, .inl e1⟩) hsp
              · exact absurd (.inl ⟨p, hm, .inr e2⟩) hsp
              · exact absurd (.inr (.inl ⟨p, hm, e1⟩)) hsp
              · obtain ⟨_, hn⟩ := (g.ok.olOk p hm).2
                simp only [e2] at hn
                rw [(isNew_mem hn).1] at hr; cases hr
            · rcases ofW j hj hne h with h | ⟨c, h1, h2⟩
              · exact h
              · exact absurd (.inr (.inr ⟨c, h1⟩)) hsp)
      · exact T_same g hs hi hLi hp fun j hj hne h => by
          rcases h with h | h
          · rcases clash_cmp g.ok hi hj hne (clash_rT hr h).1 (clash_rT hr h).2 with h1 | ⟨p, hm, e1, e2⟩ | ⟨p, hm, e1, e2⟩ | ⟨p, hm, ⟨e1, e2⟩ | ⟨e1, e2⟩⟩
            · exact .inl h1
            · obtain ⟨k, t, ha, _⟩ := (g.ok.spOk p hm).1
              simp only [e1] at ha
              rw [(addr_mem ha).2.1] at hr; cases hr
            · obtain ⟨k, t, ha, _⟩ := (g.ok.spOk p hm).2
              simp only [e2] at ha
              rw [(addr_mem ha).2.1] at hr; cases hr
            · obtain ⟨k, t, ha, _⟩ := (g.ok.olOk p hm).1
              simp only [e1] at ha
              rw [(addr_mem ha).2.1] at hr; cases hr
            · obtain ⟨_, hn⟩ := (g.ok.olOk p hm).2
              simp only [e2] at hn
              rw [(isNew_mem hn).2.1] at hr; cases hr
          · rcases ofLoud j hj hne (.inl (touch_of (.inr (.inr (.inl hr))))) h with k | k | k
            · exact .inl k
            · rw [(isNew_mem k).2.1] at hr; cases hr
            · rw [(isLoad_mem k.1).2.1] at hr; cases hr
    | call hc ha hd' h =>
      obtain ⟨ts, ho⟩ := callOf_fn hc
      refine .call hc ?_ hd' h
      rw [← ha]
      exact hargs _ fun x hx => by rw [ho]; simp only [Op.operands, Call.operands]; exact Array.mem_append_right _ (by simpa using hx)
    | inv hc hx ha hm hd' h =>
      obtain ⟨ts, ho⟩ := callOf_inv hc
      refine .inv hc ?_ ?_ hm hd' h
      · rw [← hx]; exact operand_same g hs hi hLi hp (by rw [ho]; simp [Op.operands, Call.operands])
      · rw [← ha]
        exact hargs _ fun x hx => by rw [ho]; simp only [Op.operands, Call.operands]; exact Array.mem_append_right _ (by simpa using hx)
    | dyn hc hx hf ha hd' h =>
      obtain ⟨ts, ho⟩ := callOf_dyn hc
      refine .dyn hc ?_ hf ?_ hd' h
      · rw [← hx]; exact operand_same g hs hi hLi hp (by rw [ho]; simp [Op.operands, Call.operands])
      · rw [← ha]
        exact hargs _ fun x hx => by rw [ho]; simp only [Op.operands, Call.operands]; exact Array.mem_append_right _ (by simpa using hx)
    | loud hl hc ha h =>
      obtain ⟨ts, ho⟩ := callOf_fn hc
      have hcall : isCall (ops[i]).op = true := by unfold isCall; rw [hc]; rfl
      have hl' := (wild_loud hi hl).1
      have eS : stL out S0 L ops.size = stL out S0 allL i := by
        have e1 := B_same g hs hi hLi hp fun j hj hne h => .inl (by
          rcases h with h | h
          · exact .inl (loud_cmp hl' hj hne (.inr (touch_of (.inr (.inl h)))))
          · exact ofCall j hj hne hcall h)
        have e2 := T_same g hs hi hLi hp fun j hj hne h => .inl (by
          rcases h with h | h
          · exact .inl (loud_cmp hl' hj hne (.inr (touch_of (.inr (.inr (.inr h))))))
          · exact ofCall j hj hne hcall h)
        have e3 := x_same g hs hi hLi hp fun j hj hne h => .inl (ofCall j hj hne hcall h)
        unfold stL at e1 e2 e3 ⊢
        simp only at e1 e2 e3
        rw [e1, e2, e3]
      rw [eS]
      refine .loud hl hc ?_ h
      rw [← ha]
      exact hargs _ fun x hx => by rw [ho]; simp only [Op.operands, Call.operands]; exact Array.mem_append_right _ (by simpa using hx)
    | own hl hc ha h =>
      obtain ⟨ts, ho⟩ := callOf_fn hc
      have hcall : isCall (ops[i]).op = true := by unfold isCall; rw [hc]; rfl
      obtain ⟨hl1, hl2, hl3⟩ := wild_free hl
      have byFree : ∀ j (hj : j < ops.size), j ≠ i → touches (ops[j]).op = true → cmp ops.toList i j = true ∨ isNew (ops[j]).op = true ∨ isLoad (ops[j]).op = true := fun j hj hne ht' => by
        rcases wild_cmp hl3 hj hne (.inr ht') with k | k | k
        · exact .inl k
        · exact .inr (.inl k)
        · exact .inr (.inr k.1)
      have e2 := T_same g hs hi hLi hp fun j hj hne h => .inl (by
        rcases h with h | h
        · rcases byFree j hj hne (touch_of (.inr (.inr (.inr h)))) with k | k | k
          · exact .inl k
          · rw [(isNew_mem k).2.2.1] at h; cases h
          · rw [(isLoad_mem k).2.2.1] at h; cases h
        · exact ofCall j hj hne hcall h)
      have e3 := x_same g hs hi hLi hp fun j hj hne h => .inl (ofCall j hj hne hcall h)
      have e1 : ∀ b, b < base → (stL out S0 L ops.size).B b = (stL out S0 allL i).B b := fun b hlt => B_same_at g hs hi hLi hp fun j hj hne h => by
        rcases h with h | h
        · rcases byFree j hj hne (touch_of (.inr (.inl h))) with k | k | k
          · exact .inl (.inl k)
          · rcases new_form g ⟨hj, k⟩ with q | ⟨cs, q⟩
            · exact .inr fun B => by rw [q]
            · exact .inr fun B => by rw [q]; exact upd_ne _ _ (by omega)
          · rw [(isLoad_mem k).1] at h; cases h
        · exact .inl (ofCall j hj hne hcall h)
      refine .own hl hc ?_ ⟨fun S1 k1 k2 k3 k4 k5 k6 => h.call S1 (by rw [k1]; rfl) (by rw [k2, e3]) (by rw [k3]; rfl) (by rw [k4]; rfl) (by rw [k5, e2]) (fun b hb => by rw [k6 b hb]; exact e1 b hb), h.loc, h.keep, h.pw⟩
      rw [← ha]
      exact hargs _ fun x hx => by rw [ho]; simp only [Op.operands, Call.operands]; exact Array.mem_append_right _ (by simpa using hx)
end
end
end Go.Sh
