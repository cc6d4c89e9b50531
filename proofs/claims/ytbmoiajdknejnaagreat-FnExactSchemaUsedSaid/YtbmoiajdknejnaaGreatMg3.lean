/- ShL and what follows it, one behind another. -/
import Derived.Test.YtbmoiajdknejnaaGreatMg2
import Derived.OpenShut
import Derived.SizedLaws
import Derived.SliceStrings
/- THE SHADOW, 10: a region that draws its order. Over any program. -/
set_option linter.unusedVariables false
set_option linter.unusedSimpArgs false
namespace Go.Sh
open Go.RowKit (Below)

section
variable {P : Program} {sp : Spl} {ol : Old}

theorem looksAt_operand {ops : Array Oper} {o : Oper} {t : Nat} (h : Operand.tmp t ∈ o.op.operands) : t ∈ looksAt ops o :=
  List.mem_append_left _ (List.mem_filterMap.2 ⟨.tmp t, by simpa using h, rfl⟩)
theorem looksAt_guard {ops : Array Oper} {o : Oper} {g : Nat} {w : Bool} {d : Nat} (h : o.guard = some (g, w)) (hd : (ops[g]?).bind (·.dst) = some d) : d ∈ looksAt ops o := by
  unfold looksAt
  rw [h]
  exact List.mem_append_right _ (by simp [hd])

def SpAt (ops : Array Oper) (x : Nat × Nat) : Prop := ∃ (h : x.1 < ops.size) (t : Nat), addrX (ops[x.1]).op = some (.tmp t) ∧ t < globalsAt ∧ rootOf ops x.1 t = some x.2
theorem spAt_ok {ops : Array Oper} {x : Nat × Nat} (h : spAt ops x = true) : SpAt ops x := by
  unfold spAt at h
  split at h
  · rename_i o ho
    obtain ⟨hlt, rfl⟩ := Array.getElem?_eq_some_iff.1 ho
    split at h
    · rename_i t ht
      simp only [Bool.and_eq_true, decide_eq_true_eq, beq_iff_eq] at h
      exact ⟨hlt, t, ht, h.1, h.2⟩
    · cases h
  · cases h

def SpHas (sp : Spl) (i j : Nat) : Prop := ∃ p ∈ sp, p.1.1 = i ∧ p.2.1 = j

def OlHas (ol : Old) (i j : Nat) : Prop := ∃ p ∈ ol, (p.1.1 = i ∧ p.2 = j) ∨ (p.1.1 = j ∧ p.2 = i)
def NewAt (ops : Array Oper) (j : Nat) : Prop := ∃ h : j < ops.size, isNew (ops[j]).op = true

def EarHas (ops : Array Oper) (i j : Nat) : Prop := j < i ∧ NewAt ops i ∧ (∃ h : j < ops.size, isLoad (ops[j]).op = true) ∧ ∀ q (h : q < ops.size), q < j → isCall (ops[q]).op = false
theorem earOk_ok {ops : Array Oper} {i j : Nat} (hlt : j < i) (h : earOk ops i j = true) : EarHas ops i j := by
  unfold earOk at h
  simp only [Bool.and_eq_true] at h
  obtain ⟨⟨h1, h2⟩, h3⟩ := h
  refine ⟨hlt, ?_, ?_, fun q hq hlt => ?_⟩
  · by_cases hi : i < ops.size
    · exact ⟨hi, by simpa [hi] using h1⟩
    · simp [hi] at h1
  · by_cases hj : j < ops.size
    · exact ⟨hj, by simpa [hj] using h2⟩
    · simp [hj] at h2
  · have := List.all_eq_true.1 h3 q (List.mem_range.2 hlt)
    simpa [hq] using this
structure DrawOk (P : Program) (ops : Array Oper) (sp : Spl) (ol : Old) : Prop where
  mixed : P.follows .mixedOrders = true
  back : ∀ i (h : i < ops.size) e, e ∈ (ops[i]).after.toList → Region.binds .any e = true → e.on < i
  dst : ∀ i j (h : i < ops.size) (h' : j < ops.size), j < i → ∀ d, (ops[i]).dst = some d → (ops[j]).dst ≠ some d
  pair : ∀ i j (h : i < ops.size) (h' : j < ops.size), j < i → cmp ops.toList i j = true ∨
    ((∀ d, (ops[j]).dst = some d → d ∉ looksAt ops ops[i]) ∧ (∀ d, (ops[i]).dst = some d → d ∉ looksAt ops ops[j]) ∧ (clash (memOf (ops[i]).op) (memOf (ops[j]).op) = false ∨ SpHas sp i j ∨ OlHas ol i j ∨ EarHas ops i j))
  spOk : ∀ p ∈ sp, SpAt ops p.1 ∧ SpAt ops p.2
  olOk : ∀ p ∈ ol, SpAt ops p.1 ∧ NewAt ops p.2

theorem drawOk_ok {ops : Array Oper} (h : drawOk P ops sp ol = true) : DrawOk P ops sp ol := by
  unfold drawOk at h
  simp only [Bool.and_eq_true] at h
  obtain ⟨⟨⟨⟨⟨h1, h2⟩, h3⟩, h4⟩, h5⟩, h6⟩ := h
  have pr : ∀ i j (h : i < ops.size) (h' : j < ops.size), j < i → pairOk ops ops.toList sp ol i j = true := fun i j hi hj hlt =>
    List.all_eq_true.1 (List.all_eq_true.1 h4 i (List.mem_range.2 hi)) j (List.mem_range.2 hlt)
  have ge : ∀ i (h : i < ops.size), ops.toList[i]? = some ops[i] := fun i hi => by simp [hi]
  refine ⟨h1, fun i hi e he hb => ?_, fun i j hi hj hlt d hd hd' => ?_, fun i j hi hj hlt => ?_, fun p hp => ?_, fun p hp => ?_⟩
  · have := List.all_eq_true.1 h3 i (List.mem_range.2 hi)
    simp only [Array.getElem?_eq_getElem hi, Option.map_some, Option.getD_some] at this
    have := List.all_eq_true.1 this e he
    simp only [hb, Bool.not_true, Bool.false_or] at this
    simpa using this
  · have := pr i j hi hj hlt
    simp only [pairOk, ge i hi, ge j hj, Bool.and_eq_true] at this
    have := this.1
    simp [hd, hd'] at this
  · have := pr i j hi hj hlt
    simp only [pairOk, ge i hi, ge j hj, Bool.and_eq_true, Bool.or_eq_true] at this
    refine this.2.imp id (fun h => ?_)
    obtain ⟨⟨a, b⟩, c⟩ := h
    refine ⟨fun d hd hm => ?_, fun d hd hm => ?_, ?_⟩
    · simp [hd, hm] at a
    · simp [hd, hm] at b
    · rcases c with ((c | c) | c) | c
      · exact .inl (by simpa using c)
      · obtain ⟨p, hp, hc⟩ := List.any_eq_true.1 c
        simp only [Bool.and_eq_true, beq_iff_eq] at hc
        exact .inr (.inl ⟨p, hp, hc⟩)
      · obtain ⟨p, hp, hc⟩ := List.any_eq_true.1 c
        simp only [Bool.or_eq_true, Bool.and_eq_true, beq_iff_eq] at hc
        exact .inr (.inr (.inl ⟨p, hp, hc⟩))
      · exact .inr (.inr (.inr (earOk_ok hlt c)))
  · have := List.all_eq_true.1 h5 p hp
    simp only [Bool.and_eq_true] at this
    exact ⟨spAt_ok this.1, spAt_ok this.2⟩
  · have := List.all_eq_true.1 h6 p hp
    simp only [Bool.and_eq_true] at this
    refine ⟨spAt_ok this.1, ?_⟩
    have h7 := this.2
    by_cases hlt : p.2 < ops.size
    · exact ⟨hlt, by simpa [hlt] using h7⟩
    · simp [hlt] at h7

theorem anc_lt {ops : Array Oper} (hok : DrawOk P ops sp ol) {i j : Nat} (hi : i < ops.size) (h : anc ops.toList i j = true) : j < i := by
  induction i using Nat.strongRecOn with
  | _ i ih =>
    obtain ⟨e, h1, h2, h3⟩ := anc_step (by simpa using hi) h
    have hlt := hok.back i hi e (by simpa using h1) h2
    rcases h3 with h3 | ⟨_, h3⟩
    · omega
    · have := ih e.on hlt (by omega) h3
      omega

section
variable {ops : Array Oper} {E0 : Env} {S0 : St} {base : Nat} {out : Nat → Out}

def stE (ops : Array Oper) (out : Nat → Out) (j : Nat) (E : Env) : Env := match ops[j]? with | some o => E.put o.dst (out j).s | none => E
def envL (ops : Array Oper) (out : Nat → Out) (E0 : Env) (L : Nat → Bool) (n : Nat) : Env := foldF (stE ops out) L n E0
def stL (out : Nat → Out) (S0 : St) (L : Nat → Bool) (n : Nat) : St := { S0 with B := foldF (fun j => (out j).fB) L n S0.B, T := foldF (fun j => (out j).fT) L n S0.T, nx := foldF (fun j => (out j).fx) L n S0.nx }

abbrev allL : Nat → Bool := fun _ => true

theorem foldF_lt {X : Type} {f : Nat → X → X} {k : Nat} : ∀ {n : Nat} {x : X}, k ≤ n → foldF f (fun j => decide (j < k)) n x = foldF f allL k x
  | 0, x, h => by have : k = 0 := by omega
                  subst this; rfl
  | n + 1, x, h => by
    by_cases e : k = n + 1
    · subst e
      exact foldF_congr fun j hj => .inr (by simp [hj])
    · simp only [foldF]
      rw [if_neg (by simp; omega)]
      exact foldF_lt (by omega)

theorem Tr.at {lo : Nat → Bool} : ∀ {l : List Oper} {r : List Out} {i : Nat} {E : Env} {S : St} {E' : Env} {S' : St}, Tr lo P ops base i l E S r E' S' → (∀ k, k < l.length → ops[i + k]? = l[k]?) → (∀ k, k < l.length → r[k]? = some (out (i + k))) →
    E = envL ops out E0 allL i → S = stL out S0 allL i → (∀ k (h : k < l.length), Step1 (loAt lo ops base (i + k) (envL ops out E0 allL (i + k))) P ops (base + (i + k)) l[k] (envL ops out E0 allL (i + k)) (stL out S0 allL (i + k)) (out (i + k))) ∧ E' = envL ops out E0 allL (i + l.length) ∧ S' = stL out S0 allL (i + l.length)
  | [], [], i, E, S, E', S', h, _, _, hE, hS => by obtain ⟨rfl, rfl⟩ := h; exact ⟨fun k hk => by simp at hk, hE, hS⟩
  | o :: l, ot :: r, i, E, S, E', S', h, ho, hr, hE, hS => by
    obtain ⟨h1, h2⟩ := h
    have e0 : ops[i]? = some o := by simpa using ho 0 (by simp)
    have e1 : ot = out i := by simpa using hr 0 (by simp)
    have eE : E.put o.dst ot.s = envL ops out E0 allL (i + 1) := by
      unfold envL
      simp only [foldF, if_true, stE, e0]
      rw [hE, e1]; rfl
    have eS : S.out ot = stL out S0 allL (i + 1) := by
      rw [hS, e1]; rfl
    obtain ⟨a, b, c⟩ := Tr.at h2 (fun k hk => by have := ho (k + 1) (by simpa using hk); simpa [Nat.add_assoc, Nat.add_comm 1] using this) (fun k hk => by have := hr (k + 1) (by simpa using hk); simpa [Nat.add_assoc, Nat.add_comm 1] using this) eE eS
    refine ⟨fun k hk => ?_, ?_, ?_⟩
    · cases k with
      | zero =>
        simp only [Nat.add_zero, List.getElem_cons_zero]
        rw [← hE, ← hS, ← e1]; exact h1
      | succ k =>
        have := a k (by simpa using hk)
        simpa [Nat.add_assoc, Nat.add_comm 1] using this
    · rw [b]; congr 1; simp; omega
    · rw [c]; congr 1; simp; omega
  | [], _ :: _, _, _, _, _, _, h, _, _, _, _ => h.elim
  | _ :: _, [], _, _, _, _, _, h, _, _, _, _ => h.elim

def wildAt (ops : Array Oper) (j : Nat) : Bool := loudAt ops.toList j || freeAt ops j
theorem drawLo_loud {j : Nat} (hj : j < ops.size) : drawLo ops j = loudAt ops.toList j := if_pos hj
theorem drawLo_free {j : Nat} : drawLo ops (ops.size + 1 + j) = freeAt ops j := by
  unfold drawLo
  rw [if_neg (by omega), if_neg (by omega)]
  congr 1; omega
theorem wild_loud {j : Nat} {E : Env} {base : Nat} (hj : j < ops.size) (h : (loAt (drawLo ops) ops base j E).loud = true) : loudAt ops.toList j = true ∧ wildAt ops j = true := by
  have : loudAt ops.toList j = true := by rw [← drawLo_loud hj]; exact h
  exact ⟨this, by unfold wildAt; rw [this]; rfl⟩
theorem wild_free {j : Nat} {E : Env} {base : Nat} (h : (loAt (drawLo ops) ops base j E).free) : freeAt ops j = true ∧ OldT (oldOf ops j) base E ∧ wildAt ops j = true := by
  have h1 : freeAt ops j = true := by rw [← drawLo_free]; exact h.2.1
  exact ⟨h1, h.2.2, by unfold wildAt; rw [h1, Bool.or_true]⟩
structure Given (P : Program) (ops : Array Oper) (sp : Spl) (ol : Old) (E0 : Env) (S0 : St) (base : Nat) (out : Nat → Out) : Prop where
  ok : DrawOk P ops sp ol
  step : ∀ k (h : k < ops.size), Step1 (loAt (drawLo ops) ops base k (envL ops out E0 allL k)) P ops (base + k) ops[k] (envL ops out E0 allL k) (stL out S0 allL k) (out k)
  few : S0.n ≤ globalsAt
  sep : SepT sp E0
  old : OldT ol base E0
  fresh : ∀ q, q < ops.size → S0.B (base + q) = none

def Shut (ops : Array Oper) (L : Nat → Bool) : Prop := ∀ i (h : i < ops.size), L i = true → ∀ e ∈ (ops[i]).after.toList, Region.binds .any e = true → L e.on = true

theorem Shut.anc {L : Nat → Bool} (hs : Shut ops L) {i j : Nat} (hi : i < ops.size) (hL : ∀ e ∈ (ops[i]).after.toList, Region.binds .any e = true → L e.on = true) (h : anc ops.toList i j = true) : L j = true := by
  induction i using Nat.strongRecOn with
  | _ i ih =>
    obtain ⟨e, h1, h2, h3⟩ := anc_step (by simpa using hi) h
    have hle := hL e (by simpa using h1) h2
    rcases h3 with h3 | ⟨hlt, h3⟩
    · rw [← h3]; exact hle
    · exact ih e.on hlt (by omega) (hs e.on (by omega) hle) h3

variable {L : Nat → Bool}

theorem cmp_listed (g : DrawOk P ops sp ol) (hs : Shut ops L) {i j : Nat} (hi : i < ops.size) (hj : j < ops.size) (hLi : L i = false) (hp : ∀ e ∈ (ops[i]).after.toList, Region.binds .any e = true → L e.on = true) (hc : cmp ops.toList i j = true ∨ cmp ops.toList j i = true) (hne : i ≠ j) : L j = decide (j < i) := by
  have hc' : anc ops.toList i j = true ∨ anc ops.toList j i = true := by
    unfold cmp at hc
    simp only [Bool.or_eq_true] at hc
    rcases hc with h | h
    · exact h
    · exact h.symm
  rcases hc' with h | h
  · have := anc_lt g hi h
    rw [Shut.anc hs hi hp h]; simp [this]
  · have hlt := anc_lt g hj h
    have : L j = false := by
      cases hb : L j with
      | false => rfl
      | true =>
        have := Shut.anc hs hj (hs j hj hb) h
        rw [hLi] at this; cases this
    rw [this]; simp; omega

theorem not_cmp (g : DrawOk P ops sp ol) (hs : Shut ops L) {i j : Nat} (hi : i < ops.size) (hj : j < ops.size) (hLi : L i = false) (hLj : L j = true) (hlt : i < j) : cmp ops.toList j i = false ∧ cmp ops.toList i j = false := by
  have a : anc ops.toList j i = false := by
    cases hb : anc ops.toList j i with
    | false => rfl
    | true =>
      have := Shut.anc hs hj (hs j hj hLj) hb
      rw [hLi] at this; cases this
  have b : anc ops.toList i j = false := by
    cases hb : anc ops.toList i j with
    | false => rfl
    | true =>
      have := anc_lt g hi hb
      omega
  unfold cmp
  simp [a, b]

theorem stE_at (j k : Nat) (E : Env) : stE ops out j E k = if ((ops[j]?).bind (·.dst)) = some k then some (out j).s else E k := by
  unfold stE
  cases ho : ops[j]? with
  | none => simp
  | some o =>
    obtain ⟨dst, op, ty, pos, after, guard⟩ := o
    simp only [Option.bind_some]
    cases dst with
    | none => simp [Env.put]
    | some d =>
      simp only [Env.put, Option.some.injEq]
      by_cases e : d = k
      · subst e; simp [upd_same]
      · rw [upd_ne _ _ (fun h => e h.symm), if_neg e]

theorem envL_at (k n : Nat) : envL ops out E0 L n k = foldF (fun j x => if ((ops[j]?).bind (·.dst)) = some k then some (out j).s else x) L n (E0 k) := by
  unfold envL
  induction n with
  | zero => rfl
  | succ n ih =>
    simp only [foldF]
    split
    · rw [stE_at, ih]
    · exact ih

theorem slot_same (g : Given P ops sp ol E0 S0 base out) (hs : Shut ops L) {i : Nat} (hi : i < ops.size) (hLi : L i = false) (hp : ∀ e ∈ (ops[i]).after.toList, Region.binds .any e = true → L e.on = true) {k : Nat} (hk : k ∈ looksAt ops ops[i]) :
    envL ops out E0 L ops.size k = envL ops out E0 allL i k := by
  rw [envL_at, envL_at, ← foldF_lt (k := i) (n := ops.size) (by omega)]
  refine foldF_congr fun j hj => ?_
  by_cases hd : (ops[j]?).bind (·.dst) = some k
  · refine .inr ?_
    have hd' : (ops[j]).dst = some k := by rw [Array.getElem?_eq_getElem hj] at hd; simpa using hd
    rcases Nat.lt_trichotomy j i with h | h | h
    · rcases g.ok.pair i j hi hj h with hc | ⟨h1, _, _⟩
      · exact cmp_listed g.ok hs hi hj hLi hp (.inl hc) (by omega)
      · exact absurd hk (h1 k hd')
    · subst h; rw [hLi]; simp
    · rcases g.ok.pair j i hj hi h with hc | ⟨_, h2, _⟩
      · exact cmp_listed g.ok hs hi hj hLi hp (.inr hc) (by omega)
      · exact absurd hk (h2 k hd')
  · exact .inl fun y => if_neg hd

theorem glob_same (g : Given P ops sp ol E0 S0 base out) {k : Nat} (hk : globalsAt ≤ k) (L M : Nat → Bool) (n m : Nat) (hn : n ≤ ops.size) (hm : m ≤ ops.size) : envL ops out E0 L n k = envL ops out E0 M m k := by
  have key : ∀ (L : Nat → Bool) n, n ≤ ops.size → envL ops out E0 L n k = E0 k := by
    intro L n hn
    rw [envL_at]
    induction n with
    | zero => rfl
    | succ n ih =>
      have hne : ¬ ((ops[n]?).bind (·.dst) = some k) := by
        rw [Array.getElem?_eq_getElem (by omega)]
        intro e
        have h1 := dstOk_ok (g.step n (by omega)).1 k (by simpa using e)
        have h2 : (stL out S0 allL n).n = S0.n := rfl
        have := g.few
        omega
      simp only [foldF, if_neg hne]
      split <;> exact ih (by omega)
  rw [key L n hn, key M m hm]

theorem operand_same (g : Given P ops sp ol E0 S0 base out) (hs : Shut ops L) {i : Nat} (hi : i < ops.size) (hLi : L i = false) (hp : ∀ e ∈ (ops[i]).after.toList, Region.binds .any e = true → L e.on = true) {x : Operand} (hx : x ∈ (ops[i]).op.operands) :
    evalO (envL ops out E0 L ops.size) x = evalO (envL ops out E0 allL i) x := by
  cases x with
  | tmp t => simp only [evalO, slot_same g hs hi hLi hp (looksAt_operand hx)]
  | const c => rfl
  | func f => rfl
  | global gl => exact glob_same g (by omega) _ _ _ _ (Nat.le_refl _) (by omega)

theorem fB_id (g : Given P ops sp ol E0 S0 base out) {j : Nat} (hj : j < ops.size) (h : (memOf (ops[j]).op).wB = false) (hl : wildAt ops j = true → isCall (ops[j]).op = false) : ∀ B, (out j).fB B = B := by
  obtain ⟨_, hw, ht, hf⟩ := g.step j hj
  intro B
  cases hb : (out j).w with
  | false => rw [hf hb]
  | true =>
    have := ht hb
    generalize out j = ot at *
    cases this with
    | op hc he =>
      rename_i s e
      have k := evalOp_eff he
      cases e with
      | no => rfl
      | new cs => have := k.new cs rfl; rw [h] at this; cases this
      | set b cs => have := (k.set b cs rfl).1; rw [h] at this; cases this
      | tip i k sz => rfl
      | mov b cs => have := (k.mov b cs rfl).1; rw [h] at this; cases this
    | call => rfl
    | inv => rfl
    | dyn => rfl
    | loud h1 hc ha hlc =>
      have := hl (wild_loud hj h1).2
      unfold isCall at this
      rw [hc] at this; cases this
    | own h1 hc ha hlc => 
      have := hl (wild_free h1).2.2
      unfold isCall at this
      rw [hc] at this; cases this

theorem fT_id (g : Given P ops sp ol E0 S0 base out) {j : Nat} (hj : j < ops.size) (h : (memOf (ops[j]).op).wT = false) (hl : wildAt ops j = true → isCall (ops[j]).op = false) : ∀ T, (out j).fT T = T := by
  obtain ⟨_, hw, ht, hf⟩ := g.step j hj
  intro T
  cases hb : (out j).w with
  | false => rw [hf hb]
  | true =>
    have := ht hb
    generalize out j = ot at *
    cases this with
    | op hc he =>
      rename_i s e
      have k := evalOp_eff he
      cases e with
      | no => rfl
      | new cs => rfl
      | set b cs => rfl
      | tip i k' sz => have := (k.tip i k' sz rfl).1; rw [h] at this; cases this
      | mov b cs => rfl
    | call => rfl
    | inv => rfl
    | dyn => rfl
    | loud h1 hc ha hlc =>
      have := hl (wild_loud hj h1).2
      unfold isCall at this
      rw [hc] at this; cases this
    | own h1 hc ha hlc => rfl

theorem fx_id (g : Given P ops sp ol E0 S0 base out) {j : Nat} (hj : j < ops.size) (hl : wildAt ops j = true → isCall (ops[j]).op = false) : ∀ x, (out j).fx x = x := by
  obtain ⟨_, hw, ht, hf⟩ := g.step j hj
  intro x
  cases hb : (out j).w with
  | false => rw [hf hb]
  | true =>
    have := ht hb
    generalize out j = ot at *
    cases this with
    | op hc he => rfl
    | call => rfl
    | inv => rfl
    | dyn => rfl
    | loud h1 hc ha hlc =>
      have := hl (wild_loud hj h1).2
      unfold isCall at this
      rw [hc] at this; cases this
    | own h1 hc ha hlc => 
      have := hl (wild_free h1).2.2
      unfold isCall at this
      rw [hc] at this; cases this

theorem loud_cmp {i j : Nat} (hl : loudAt ops.toList i = true) (hj : j < ops.size) (hne : j ≠ i) (h : isCall (ops[j]).op = true ∨ touches (ops[j]).op = true) : cmp ops.toList i j = true := by
  unfold loudAt at hl
  simp only [Bool.and_eq_true] at hl
  have := List.all_eq_true.1 hl.2 j (List.mem_range.2 (by simpa using hj))
  simp only [Bool.or_eq_true, beq_iff_eq] at this
  rcases this with (h1 | h1) | h1
  · exact absurd h1 hne
  · exact h1
  · simp [hj] at h1
    rcases h with h | h
    · rw [h1.1] at h; cases h
    · rw [h1.2] at h; cases h

theorem wild_cmp {i j : Nat} (hl : wildAt ops i = true) (hj : j < ops.size) (hne : j ≠ i) (h : isCall (ops[j]).op = true ∨ touches (ops[j]).op = true) : cmp ops.toList i j = true ∨ isNew (ops[j]).op = true ∨ (isLoad (ops[j]).op = true ∧ rootFree ops j = true ∧ freeAt ops i = true) := by
  unfold wildAt at hl
  rcases Bool.or_eq_true_iff.1 hl with hl | hl
  · exact .inl (loud_cmp hl hj hne h)
  · have hf := hl
    unfold freeAt at hl
    simp only [Bool.and_eq_true] at hl
    have := List.all_eq_true.1 hl.2 j (List.mem_range.2 hj)
    simp only [Bool.or_eq_true, beq_iff_eq] at this
    rcases this with ((h1 | h1) | h1) | h1
    · exact absurd h1 hne
    · exact .inl h1
    · simp [hj] at h1
      rcases h with h | h
      · rw [h1.1] at h; cases h
      · rw [h1.2] at h; cases h
    · simp [hj] at h1
      rcases h1 with h1 | ⟨h1, h2⟩
      · exact .inr (.inl h1)
      · exact .inr (.inr ⟨h1, h2, hf⟩)
theorem touch_of {op : Op} (h : (memOf op).rB = true ∨ (memOf op).wB = true ∨ (memOf op).rT = true ∨ (memOf op).wT = true) : touches op = true := by
  unfold touches
  rcases h with h | h | h | h <;> simp [h]

theorem part_same {X : Type} {f : Nat → X → X} {i : Nat} (hi : i < ops.size) (x : X) (h : ∀ j (hj : j < ops.size), (∀ y, f j y = y) ∨ L j = decide (j < i)) : foldF f L ops.size x = foldF f allL i x := by
  rw [← foldF_lt (k := i) (n := ops.size) (by omega)]
  exact foldF_congr fun j hj => h j hj

theorem B_same (g : Given P ops sp ol E0 S0 base out) (hs : Shut ops L) {i : Nat} (hi : i < ops.size) (hLi : L i = false) (hp : ∀ e ∈ (ops[i]).after.toList, Region.binds .any e = true → L e.on = true)
    (hall : ∀ j (hj : j < ops.size), j ≠ i → ((memOf (ops[j]).op).wB = true ∨ (wildAt ops j = true ∧ isCall (ops[j]).op = true)) → (cmp ops.toList i j = true ∨ cmp ops.toList j i = true) ∨ ∀ y, (out j).fB y = y) : (stL out S0 L ops.size).B = (stL out S0 allL i).B := by
  refine part_same hi _ fun j hj => ?_
  by_cases e : j = i
  · subst e; exact .inr (by rw [hLi]; simp)
  by_cases h1 : (memOf (ops[j]).op).wB = true
  · exact (hall j hj e (.inl h1)).symm.imp id fun k => cmp_listed g.ok hs hi hj hLi hp k (fun h => e h.symm)
  · by_cases h2 : wildAt ops j = true ∧ isCall (ops[j]).op = true
    · exact (hall j hj e (.inr h2)).symm.imp id fun k => cmp_listed g.ok hs hi hj hLi hp k (fun h => e h.symm)
    · exact .inl (fB_id g hj (by simpa using h1) (fun h => by
        cases hb : isCall (ops[j]).op with
        | false => rfl
        | true => exact absurd ⟨h, hb⟩ h2))

theorem T_same (g : Given P ops sp ol E0 S0 base out) (hs : Shut ops L) {i : Nat} (hi : i < ops.size) (hLi : L i = false) (hp : ∀ e ∈ (ops[i]).after.toList, Region.binds .any e = true → L e.on = true)
    (hall : ∀ j (hj : j < ops.size), j ≠ i → ((memOf (ops[j]).op).wT = true ∨ (wildAt ops j = true ∧ isCall (ops[j]).op = true)) → (cmp ops.toList i j = true ∨ cmp ops.toList j i = true) ∨ ∀ y, (out j).fT y = y) : (stL out S0 L ops.size).T = (stL out S0 allL i).T := by
  refine part_same hi _ fun j hj => ?_
  by_cases e : j = i
  · subst e; exact .inr (by rw [hLi]; simp)
  by_cases h1 : (memOf (ops[j]).op).wT = true
  · exact (hall j hj e (.inl h1)).symm.imp id fun k => cmp_listed g.ok hs hi hj hLi hp k (fun h => e h.symm)
  · by_cases h2 : wildAt ops j = true ∧ isCall (ops[j]).op = true
    · exact (hall j hj e (.inr h2)).symm.imp id fun k => cmp_listed g.ok hs hi hj hLi hp k (fun h => e h.symm)
    · exact .inl (fT_id g hj (by simpa using h1) (fun h => by
        cases hb : isCall (ops[j]).op with
        | false => rfl
        | true => exact absurd ⟨h, hb⟩ h2))

theorem x_same (g : Given P ops sp ol E0 S0 base out) (hs : Shut ops L) {i : Nat} (hi : i < ops.size) (hLi : L i = false) (hp : ∀ e ∈ (ops[i]).after.toList, Region.binds .any e = true → L e.on = true)
    (hall : ∀ j (hj : j < ops.size), j ≠ i → (wildAt ops j = true ∧ isCall (ops[j]).op = true) → (cmp ops.toList i j = true ∨ cmp ops.toList j i = true) ∨ ∀ y, (out j).fx y = y) : (stL out S0 L ops.size).nx = (stL out S0 allL i).nx := by
  refine part_same hi _ fun j hj => ?_
  by_cases e : j = i
  · subst e; exact .inr (by rw [hLi]; simp)
  by_cases h2 : wildAt ops j = true ∧ isCall (ops[j]).op = true
  · exact (hall j hj e h2).symm.imp id fun k => cmp_listed g.ok hs hi hj hLi hp k (fun h => e h.symm)
  · exact .inl (fx_id g hj (fun h => by
      cases hb : isCall (ops[j]).op with
      | false => rfl
      | true => exact absurd ⟨h, hb⟩ h2))

theorem clash_cmp (g : DrawOk P ops sp ol) {i j : Nat} (hi : i < ops.size) (hj : j < ops.size) (hne : j ≠ i) (h : clash (memOf (ops[i]).op) (memOf (ops[j]).op) = true) (h' : clash (memOf (ops[j]).op) (memOf (ops[i]).op) = true) : (cmp ops.toList i j = true ∨ cmp ops.toList j i = true) ∨ SpHas sp i j ∨ SpHas sp j i ∨ OlHas ol i j ∨ EarHas ops i j ∨ EarHas ops j i := by
  rcases Nat.lt_trichotomy j i with hlt | e | hlt
  · rcases g.pair i j hi hj hlt with hc | ⟨_, _, h3 | h3 | h3 | h3⟩
    · exact .inl (.inl hc)
    · rw [h] at h3; cases h3
    · exact .inr (.inl h3)
    · exact .inr (.inr (.inr (.inl h3)))
    · exact .inr (.inr (.inr (.inr (.inl h3))))
  · exact absurd e hne
  · rcases g.pair j i hj hi hlt with hc | ⟨_, _, h3 | h3 | ⟨p, hp, h3⟩ | h3⟩
    · exact .inl (.inr hc)
    · rw [h'] at h3; cases h3
    · exact .inr (.inr (.inl h3))
    · exact .inr (.inr (.inr (.inl ⟨p, hp, h3.symm⟩)))
    · exact .inr (.inr (.inr (.inr (.inr h3))))

theorem isNew_mem {op : Op} (h : isNew op = true) : (memOf op).rB = false ∧ (memOf op).rT = false ∧ (memOf op).wT = false ∧ callOf op = none := by
  unfold isNew at h
  split at h
  · exact ⟨rfl, rfl, rfl, rfl⟩
  · exact ⟨rfl, rfl, rfl, rfl⟩
  · cases h

theorem addr_mem {op : Op} {x : Operand} (h : addrX op = some x) : (memOf op).wT = false ∧ (memOf op).rT = false ∧ isCall op = false := by
  unfold addrX at h
  split at h
  · exact ⟨rfl, rfl, rfl⟩
  · exact ⟨rfl, rfl, rfl⟩
  · cases h

theorem refOf_tmp {E : Env} {u b : Nat} {s : SV} (h : evalO E (.tmp u) = some s) (hb : refOf (E u) = some b) : refOf (some s) = some b := by
  simp only [evalO] at h
  split at h
  · rw [← h]; exact hb
  · cases h

theorem rootOf_ok (g : Given P ops sp ol E0 S0 base out) : ∀ {n t s b : Nat}, n ≤ ops.size → rootOf ops n t = some s → refOf (E0 s) = some b → refOf (envL ops out E0 allL n t) = some b
  | 0, t, s, b, _, h, hb => by cases h; exact hb
  | n + 1, t, s, b, hn, h, hb => by
    show refOf (stE ops out n (envL ops out E0 allL n) t) = some b
    have hlt : n < ops.size := by omega
    rw [stE_at]
    unfold rootOf at h
    rw [Array.getElem?_eq_getElem hlt] at h ⊢
    simp only [Option.bind_some] at h ⊢
    by_cases e : (ops[n]).dst = some t
    · rw [if_pos e] at h ⊢
      obtain ⟨_, hw, ht, hf⟩ := g.step n hlt
      have main : (ops[n]).guard = none → (out n).w = true := fun hg => by
        unfold wantS at hw
        rw [hg] at hw
        simpa using hw.symm
      split at h
      · rename_i u hg ho
        have k := ht (main hg)
        have ih := rootOf_ok g (by omega) h hb
        generalize out n = ot at k ⊢
        cases k with
        | op hc he =>
          simp only [evalOp, ho, Option.map_eq_some_iff, Prod.mk.injEq] at he
          obtain ⟨s', h1, rfl, _⟩ := he
          exact refOf_tmp h1 ih
        | call hc => rw [ho] at hc; cases hc
        | inv hc => rw [ho] at hc; cases hc
        | dyn hc => rw [ho] at hc; cases hc
        | loud hl hc => rw [ho] at hc; cases hc
        | own hl hc => rw [ho] at hc; cases hc
      · rename_i T u k' hg ho
        have k := ht (main hg)
        have ih := rootOf_ok g (by omega) h hb
        generalize out n = ot at k ⊢
        cases k with
        | op hc he =>
          simp only [evalOp, ho] at he
          split at he
          · rename_i h1 h2
            have := refOf_tmp h1 ih
            cases this
          · rename_i h1 h2
            have := refOf_tmp h1 ih
            simp only [refOf, Option.some.injEq] at this
            simp only [Option.some.injEq, Prod.mk.injEq] at he
            obtain ⟨rfl, _⟩ := he
            simp only [refOf, this]
          · cases he
        | call hc => rw [ho] at hc; cases hc
        | inv hc => rw [ho] at hc; cases hc
        | dyn hc => rw [ho] at hc; cases hc
        | loud hl hc => rw [ho] at hc; cases hc
        | own hl hc => rw [ho] at hc; cases hc
      · cases h
    · rw [if_neg e] at h ⊢
      exact rootOf_ok g (by omega) h hb

theorem at_form (g : Given P ops sp ol E0 S0 base out) {x : Nat × Nat} (hx : SpAt ops x) {b : Nat} (hb0 : refOf (E0 x.2) = some b) : (∀ B, (out x.1).fB B = B) ∨ ∃ cs, ∀ B, (out x.1).fB B = upd B b cs := by
  obtain ⟨hi, t, ha, hg, hl⟩ := hx
  have hs := rootOf_ok g (by omega) hl hb0
  obtain ⟨_, hw, ht, hf⟩ := g.step x.1 hi
  cases hb : (out x.1).w with
  | false => rw [hf hb]; exact .inl fun _ => rfl
  | true =>
    have := ht hb
    have hcl := (addr_mem ha).2.2
    generalize out x.1 = ot at this ⊢
    cases this with
    | op hc he =>
      rename_i s e
      cases e with
      | no => exact .inl fun _ => rfl
      | new cs =>
        have := (evalOp_eff he).new cs rfl
        unfold addrX at ha
        split at ha
        · rename_i h; rw [h] at this; cases this
        · rename_i T z y h
          unfold evalOp at he
          rw [h] at he
          simp only at he
          split at he
          · split at he
            · obtain ⟨_, h5⟩ := onlyIf_ok he
              simp only [Prod.mk.injEq] at h5
              cases h5.2
            · cases he
          · cases he
        · cases ha
      | set b1 cs =>
        refine .inr ⟨cs, fun _ => ?_⟩
        unfold addrX at ha
        split at ha
        · rename_i h
          have := ((evalOp_eff he).set b1 cs rfl).1
          rw [h] at this; cases this
        · rename_i T z y h
          cases ha
          unfold evalOp at he
          rw [h] at he
          simp only at he
          split at he
          · rename_i b' off s' n' h6 h7 h8
            split at he
            · obtain ⟨_, h5⟩ := onlyIf_ok he
              simp only [Prod.mk.injEq, Eff.set.injEq] at h5
              obtain ⟨_, rfl, _⟩ := h5
              have := refOf_tmp h6 hs
              simp only [refOf, Option.some.injEq] at this
              rw [this]; rfl
            · cases he
          · cases he
        · cases ha
      | tip i k sz => exact .inl fun _ => rfl
      | mov b1 cs =>
        have := (evalOp_eff he).mov b1 cs rfl
        unfold addrX at ha
        split at ha
        · rename_i h; rw [h] at this; cases this.1
        · rename_i T z y h
          unfold evalOp at he
          rw [h] at he
          simp only at he
          split at he
          · split at he
            · obtain ⟨_, h5⟩ := onlyIf_ok he
              simp only [Prod.mk.injEq] at h5
              cases h5.2
            · cases he
          · cases he
        · cases ha
    | call => exact .inl fun _ => rfl
    | inv => exact .inl fun _ => rfl
    | dyn => exact .inl fun _ => rfl
    | loud h1 hc =>
      unfold isCall at hcl
      rw [hc] at hcl; cases hcl
    | own h1 hc =>
      unfold isCall at hcl
      rw [hc] at hcl; cases hcl

theorem sep_far (g : Given P ops sp ol E0 S0 base out) {x y : Nat × Nat} (hx : SpAt ops x) (hy : SpAt ops y) (h : apart (refOf (E0 x.2)) (refOf (E0 y.2))) :
    ∃ b, addrB (envL ops out E0 allL x.1) ((ops[x.1]?).map (·.op)).get! = some b ∧ ∀ B, (out y.1).fB B b = B b := by
  obtain ⟨hi, t, ha, hg, hl⟩ := id hx
  cases hb : refOf (E0 x.2) with
  | none => rw [hb] at h; exact h.elim
  | some b =>
    refine ⟨b, ?_, fun B => ?_⟩
    · rw [Array.getElem?_eq_getElem hi]
      simp only [Option.map_some, Option.get!_some, addrB, ha, evalO, if_pos hg]
      exact rootOf_ok g (by omega) hl hb
    · rw [hb] at h
      cases hc : refOf (E0 y.2) with
      | none => rw [hc] at h; exact h.elim
      | some c =>
        rw [hc] at h
        rcases at_form g hy hc with k | ⟨cs, k⟩
        · rw [k]
        · rw [k]; exact upd_ne _ _ h

theorem new_form (g : Given P ops sp ol E0 S0 base out) {j : Nat} (hj : NewAt ops j) : (∀ B, (out j).fB B = B) ∨ ∃ cs, ∀ B, (out j).fB B = upd B (base + j) cs := by
  obtain ⟨hlt, hn⟩ := hj
  obtain ⟨_, hw, ht, hf⟩ := g.step j hlt
  cases hb : (out j).w with
  | false => rw [hf hb]; exact .inl fun _ => rfl
  | true =>
    have := ht hb
    have hc0 := (isNew_mem hn).2.2.2
    generalize out j = ot at this ⊢
    cases this with
    | op hc he =>
      rename_i s e
      cases e with
      | no => exact .inl fun _ => rfl
      | new cs => exact .inr ⟨cs, fun _ => rfl⟩
      | tip i k sz => exact .inl fun _ => rfl
      | set b cs =>
        have := ((evalOp_eff he).set b cs rfl).2
        unfold isNew at hn
        split at hn
        · rename_i h; rw [h] at this; cases this
        · rename_i h; rw [h] at this; cases this
        · cases hn
      | mov b cs =>
        have := ((evalOp_eff he).mov b cs rfl).2
        unfold isNew at hn
        split at hn
        · rename_i h; rw [h] at this; cases this
        · rename_i h; rw [h] at this; cases this
        · cases hn
    | call hc => rw [hc0] at hc; cases hc
    | inv hc => rw [hc0] at hc; cases hc
    | dyn hc => rw [hc0] at hc; cases hc
    | loud h1 hc => rw [hc0] at hc; cases hc
    | own h1 hc => rw [hc0] at hc; cases hc
theorem old_far (g : Given P ops sp ol E0 S0 base out) {p : (Nat × Nat) × Nat} (hm : p ∈ ol) :
    ∃ b, addrB (envL ops out E0 allL p.1.1) ((ops[p.1.1]?).map (·.op)).get! = some b ∧ b < base ∧ ∀ B, (out p.2).fB B b = B b := by
  obtain ⟨⟨hi, t, ha, hg, hl⟩, hn⟩ := g.ok.olOk p hm
  have hbl := OldT.of g.old p hm
  cases hb : refOf (E0 p.1.2) with
  | none => rw [hb] at hbl; exact hbl.elim
  | some b =>
    rw [hb] at hbl
    have hbl : b < base := hbl
    refine ⟨b, ?_, hbl, fun B => ?_⟩
    · rw [Array.getElem?_eq_getElem hi]
      simp only [Option.map_some, Option.get!_some, addrB, ha, evalO, if_pos hg]
      exact rootOf_ok g (by omega) hl hb
    · rcases new_form g hn with k | ⟨cs, k⟩
      · rw [k]
      · rw [k]; exact upd_ne _ _ (by omega)

theorem apart_symm {a b : Option Nat} (h : apart a b) : apart b a := by
  cases a <;> cases b
  all_goals first | exact h.elim | exact fun e => h e.symm

theorem foldF_at {α β : Type} {f : Nat → (α → β) → (α → β)} {L M : Nat → Bool} {b : α} {x : α → β} : ∀ {n : Nat}, (∀ j, j < n → ∀ y z : α → β, y b = z b → f j y b = f j z b) → (∀ j, j < n → (∀ y, f j y b = y b) ∨ L j = M j) → foldF (X := α → β) f L n x b = foldF (X := α → β) f M n x b := by
  intro n
  induction n with
  | zero => intro _ _; rfl
  | succ n ih0 =>
    intro hp h
    have ih := ih0 (fun j hj => hp j (by omega)) (fun j hj => h j (by omega))
    show (if L n = true then f n (foldF f L n x) else foldF f L n x) b = (if M n = true then f n (foldF f M n x) else foldF f M n x) b
    rcases h n (by omega) with h1 | h1
    · by_cases a : L n = true <;> by_cases c : M n = true
      · rw [if_pos a, if_pos c, h1, h1]; exact ih
      · rw [if_pos a, if_neg c, h1]; exact ih
      · rw [if_neg a, if_pos c, h1]; exact ih
      · rw [if_neg a, if_neg c]; exact ih
    · rw [h1]
      by_cases c : M n = true
      · rw [if_pos c, if_pos c]; exact hp n (by omega) _ _ ih
      · rw [if_neg c, if_neg c]; exact ih

theorem fB_pw (g : Given P ops sp ol E0 S0 base out) {j : Nat} (hj : j < ops.size) {b : Nat} {y z : Nat → Option (List SV)} (h : y b = z b) : (out j).fB y b = (out j).fB z b := by
  obtain ⟨_, hw, ht, hf⟩ := g.step j hj
  cases hb : (out j).w with
  | false => rw [hf hb]; exact h
  | true =>
    have := ht hb
    generalize out j = ot at *
    cases this with
    | op hc he =>
      rename_i s e
      cases e with
      | no => exact h
      | new cs => simp only [effB, upd]; split <;> first | rfl | exact h
      | set b cs => simp only [effB, upd]; split <;> first | rfl | exact h
      | tip i k sz => exact h
      | mov b' cs =>
        simp only [effB, upd]
        split
        · rfl
        · split
          · rfl
          · exact h
    | call => exact h
    | inv => exact h
    | dyn => exact h
    | loud => rfl
    | own h1 hc ha hlc => exact hlc.pw _ _ _ h

theorem B_same_at (g : Given P ops sp ol E0 S0 base out) (hs : Shut ops L) {i b : Nat} (hi : i < ops.size) (hLi : L i = false) (hp : ∀ e ∈ (ops[i]).after.toList, Region.binds .any e = true → L e.on = true)
    (hall : ∀ j (hj : j < ops.size), j ≠ i → ((memOf (ops[j]).op).wB = true ∨ (wildAt ops j = true ∧ isCall (ops[j]).op = true)) → (cmp ops.toList i j = true ∨ cmp ops.toList j i = true) ∨ ∀ B, (out j).fB B b = B b) : (stL out S0 L ops.size).B b = (stL out S0 allL i).B b := by
  show foldF _ L ops.size S0.B b = foldF _ allL i S0.B b
  rw [← foldF_lt (k := i) (n := ops.size) (by omega)]
  refine foldF_at (fun j hj y z h => fB_pw g hj h) fun j hj => ?_
  by_cases e : j = i
  · subst e; exact .inr (by rw [hLi]; simp)
  have quiet : ((memOf (ops[j]).op).wB = true ∨ (wildAt ops j = true ∧ isCall (ops[j]).op = true)) ∨ ∀ B, (out j).fB B = B := by
    by_cases h1 : (memOf (ops[j]).op).wB = true
    · exact .inl (.inl h1)
    · by_cases h2 : wildAt ops j = true ∧ isCall (ops[j]).op = true
      · exact .inl (.inr h2)
      · exact .inr (fB_id g hj (by simpa using h1) (fun h => by
          cases hb : isCall (ops[j]).op with
          | false => rfl
          | true => exact absurd ⟨h, hb⟩ h2))
  rcases quiet with q | q
  · rcases hall j hj e q with h | h
    · exact .inr (cmp_listed g.ok hs hi hj hLi hp h (fun h => e h.symm))
    · exact .inl h
  · exact .inl fun y => by rw [q]

theorem clash_rB {a b : Mem} (h : a.rB = true) (k : b.wB = true) : clash a b = true ∧ clash b a = true := by constructor <;> simp [clash, h, k]
theorem clash_rT {a b : Mem} (h : a.rT = true) (k : b.wT = true) : clash a b = true ∧ clash b a = true := by constructor <;> simp [clash, h, k]

theorem wild_form (g : Given P ops sp ol E0 S0 base out) {j : Nat} (hj : j < ops.size) (hcall : isCall (ops[j]).op = true) : ((∀ B, (out j).fB B = B) ∧ (∀ T, (out j).fT T = T)) ∨ loudAt ops.toList j = true ∨
    (freeAt ops j = true ∧ OldT (oldOf ops j) base (envL ops out E0 allL j) ∧ (∀ T, (out j).fT T = T) ∧ (∀ B q cs, q < base + ops.size → (out j).fB (upd B q cs) = upd ((out j).fB B) q cs) ∧ ∀ B b, b < base + ops.size → (out j).fB B b = B b) := by
  obtain ⟨_, hw, ht, hf⟩ := g.step j hj
  cases hb : (out j).w with
  | false => rw [hf hb]; exact .inl ⟨fun _ => rfl, fun _ => rfl⟩
  | true =>
    have := ht hb
    generalize out j = ot at *
    cases this with
    | op hc he => unfold isCall at hcall; rw [hc] at hcall; cases hcall
    | call => exact .inl ⟨fun _ => rfl, fun _ => rfl⟩
    | inv => exact .inl ⟨fun _ => rfl, fun _ => rfl⟩
    | dyn => exact .inl ⟨fun _ => rfl, fun _ => rfl⟩
    | loud h1 hc ha hlc => exact .inr (.inl (wild_loud hj h1).1)
    | own h1 hc ha hlc => exact .inr (.inr ⟨(wild_free h1).1, (wild_free h1).2.1, fun _ => rfl, hlc.loc, hlc.keep⟩)
theorem isLoad_mem {op : Op} (h : isLoad op = true) : (memOf op).wB = false ∧ (memOf op).rT = false ∧ (memOf op).wT = false ∧ callOf op = none := by
  unfold isLoad at h
  split at h
  · exact ⟨rfl, rfl, rfl, rfl⟩
  · cases h
theorem cmp_symm {l : List Oper} (i j : Nat) : cmp l i j = cmp l j i := by unfold cmp; exact Bool.or_comm _ _
theorem load_old (g : Given P ops sp ol E0 S0 base out) {i j : Nat} (hi : i < ops.size) (hj : j < ops.size) (hne : j ≠ i) (hl : isLoad (ops[i]).op = true) (hr : rootFree ops i = true) (ho : OldT (oldOf ops j) base (envL ops out E0 allL j)) (hn : cmp ops.toList i j = false) :
    ∃ b, addrB (envL ops out E0 allL i) (ops[i]).op = some b ∧ b < base := by
  unfold rootFree at hr
  split at hr
  · rename_i s hs0
    have hs := hs0
    unfold rootAt at hs
    rw [Array.getElem?_eq_getElem hi] at hs
    simp only at hs
    split at hs
    · rename_i t ht
      split at hs
      · rename_i hg
        have hm : ((i, s), j) ∈ oldOf ops j := by
          unfold oldOf
          refine List.mem_filterMap.2 ⟨i, List.mem_range.2 hi, ?_⟩
          rw [if_neg (by rw [cmp_symm, hn]; simp; omega), if_pos (by simp [hi, hl]), hs0]
          rfl
        have hb := OldT.of ho _ hm
        have hE : envL ops out E0 allL j s = E0 s := by
          rw [envL_at]
          have : ∀ (n : Nat), n ≤ ops.size → foldF (fun j x => if ((ops[j]?).bind (·.dst)) = some s then some (out j).s else x) allL n (E0 s) = E0 s := by
            intro n
            induction n with
            | zero => intro _; rfl
            | succ n ih =>
              intro hle
              simp only [foldF, if_true]
              have hd : ¬ ((ops[n]?).bind (·.dst)) = some s := by
                rw [Array.getElem?_eq_getElem (by omega)]
                have := List.all_eq_true.1 hr ops[n] (by simp)
                simpa using this
              rw [if_neg hd]
              exact ih (by omega)
          exact this j (by omega)
        simp only at hb
        rw [hE] at hb
        cases hc : refOf (E0 s) with
        | none => rw [hc] at hb; exact hb.elim
        | some b =>
          rw [hc] at hb
          refine ⟨b, ?_, hb⟩
          simp only [addrB, ht, evalO, if_pos hg]
          exact rootOf_ok g (by omega) hs hc
      · cases hs
    · cases hs
  · cases hr

theorem new_none (g : Given P ops sp ol E0 S0 base out) {j : Nat} (hj : j < ops.size) : ∀ i, i ≤ j → (∀ q (h : q < ops.size), q < i → isCall (ops[q]).op = false) → (stL out S0 allL i).B (base + j) = none
  | 0, _, _ => g.fresh j hj
  | i + 1, hle, hc => by
    have ih := new_none g hj i (by omega) fun q h hq => hc q h (by omega)
    have hi : i < ops.size := by omega
    have eB : (stL out S0 allL (i + 1)).B = (out i).fB (stL out S0 allL i).B := rfl
    rw [eB]
    clear eB
    have hci := hc i hi (by omega)
    obtain ⟨_, hw, ht, hf⟩ := g.step i hi
    cases hb : (out i).w with
    | false => rw [hf hb]; exact ih
    | true =>
      have := ht hb
      generalize out i = ot at *
      cases this with
      | op hcl he =>
        rename_i s e
        cases e with
        | no => exact ih
        | new cs => exact (upd_ne _ _ (by omega)).trans ih
        | set b cs =>
          have hs := set_has he
          exact (upd_ne _ _ (fun e => hs (by rw [← e]; exact ih))).trans ih
        | tip i k sz => exact ih
        | mov b cs =>
          show upd (fun x => if x = b then none else (stL out S0 allL i).B x) (base + i) cs (base + j) = none
          rw [upd_ne _ _ (show base + j ≠ base + i by omega)]
          show (if base + j = b then none else _) = none
          split
          · rfl
          · exact ih
      | call => exact ih
      | inv => exact ih
      | dyn => exact ih
      | loud h1 hcl => unfold isCall at hci; rw [hcl] at hci; cases hci
      | own h1 hcl => unfold isCall at hci; rw [hcl] at hci; cases hci
theorem step_same (g : Given P ops sp ol E0 S0 base out) (hs : Shut ops L) {i : Nat} (hi : i < ops.size) (hLi : L i = false) (hp : ∀ e ∈ (ops[i]).after.toList, Region.binds .any e = true → L e.on = true) :
    Step1 (loAt (drawLo ops) ops base i (envL ops out E0 allL i)) P ops (base + i) ops[i] (envL ops out E0 L ops.size) (stL out S0 L ops.size) (out i) := by
  obtain ⟨hd, hw, ht, hf⟩ := g.step i hi
  have hargs : ∀ xs : List Operand, (∀ x ∈ xs, x ∈ (ops[i]).op.operands) → argsS (envL ops out E0 L ops.size) xs = argsS (envL ops out E0 allL i) xs := fun xs hx => argsS_congr fun x hm => operand_same g hs hi hLi hp (hx x hm)
  have ofLoud : ∀ j (hj : j < ops.size), j ≠ i → touches (ops[i]).op = true ∨ isCall (ops[i]).op = true → (wildAt ops j = true ∧ isCall (ops[j]).op = true) → (cmp ops.toList i j = true ∨ cmp ops.toList j i = true) ∨ isNew (ops[i]).op = true ∨ (isLoad (ops[i]).op = true ∧ rootFree ops i = true) := fun j hj hne h1 h2 => by
    rcases wild_cmp h2.1 hi (fun h => hne h.symm) h1.symm with h | h | h
    · exact .inl (.inr h)
    · exact .inr (.inl h)
    · exact .inr (.inr ⟨h.1, h.2.1⟩)
  have ofCall : ∀ j (hj : j < ops.size), j ≠ i → isCall (ops[i]).op = true → (wildAt ops j = true ∧ isCall (ops[j]).op = true) → cmp ops.toList i j = true ∨ cmp ops.toList j i = true := fun j hj hne h1 h2 => by
    have hci : callOf (ops[i]).op ≠ none := fun e => by unfold isCall at h1; rw [e] at h1; cases h1
    rcases ofLoud j hj hne (.inr h1) h2 with h | h | h
    · exact h
    · exact absurd (isNew_mem h).2.2.2 hci
    · exact absurd (isLoad_mem h.1).2.2.2 hci
  refine ⟨hd, ?_, fun hb => ?_, hf⟩
  · rw [← hw]
    exact wantS_congr fun gi w d h1 h2 => by simp only [evalO, slot_same g hs hi hLi hp (looksAt_guard h1 h2)]
  · have := ht hb
    generalize hot : out i = ot at this ⊢
    cases this with
    | op hc he =>
      refine .op hc ?_
      rw [← he]
      refine evalOp_congr (fun x hx => operand_same g hs hi hLi hp hx) (fun hr => ?_) (fun hr => ?_) rfl rfl
      · have ofW : ∀ j (hj : j < ops.size), j ≠ i → (wildAt ops j = true ∧ isCall (ops[j]).op = true) → ((cmp ops.toList i j = true ∨ cmp ops.toList j i = true) ∨ ∀ B, (out j).fB B = B) ∨ (∃ b, addrB (envL ops out E0 allL i) (ops[i]).op = some b ∧ ∀ B, (out j).fB B b = B b) := fun j hj hne h => by
          rcases wild_form g hj h.2 with h1 | h1 | ⟨_, h2, _, _, h5⟩
          · exact .inl (.inr h1.1)
          · exact .inl (.inl (.inr (loud_cmp h1 hi (fun e => hne e.symm) (.inr (touch_of (.inl hr))))))
          · rcases ofLoud j hj hne (.inl (touch_of (.inl hr))) h with k | k | k
            · exact .inl (.inl k)
            · rw [(isNew_mem k).1] at hr; cases hr
            · cases hn : cmp ops.toList i j with
              | true => exact .inl (.inl (.inl rfl))
              | false =>
                obtain ⟨b, k1, k2⟩ := load_old g hi hj hne k.1 k.2 h2 hn
                exact .inr ⟨b, k1, fun B => h5 B b (by omega)⟩
        by_cases hdat : isLoad (ops[i]).op = true ∧ addrB (envL ops out E0 allL i) (ops[i]).op = none
        · exact .inr (.inr hdat)
        have ear : ∀ j, EarHas ops j i → ∀ b, addrB (envL ops out E0 allL i) (ops[i]).op = some b → ∀ B, (out j).fB B b = B b := fun j ⟨hlt, hn, ⟨_, hl⟩, hc⟩ b hb B => by
          have h1 := load_has he hl hb
          have h2 := new_none g hn.1 i (by omega) hc
          have hne : b ≠ base + j := fun e => h1 (by rw [e]; exact h2)
          rcases new_form g hn with q | ⟨cs, q⟩
          · rw [q]
          · rw [q]; exact upd_ne _ _ hne
        by_cases hsp : (∃ p ∈ sp, p.1.1 = i ∨ p.2.1 = i) ∨ (∃ p ∈ ol, p.1.1 = i) ∨ ∃ b, addrB (envL ops out E0 allL i) (ops[i]).op = some b
        · refine .inr ?_
          have key : ∀ p ∈ sp, (p.1.1 = i → ∃ b, addrB (envL ops out E0 allL i) (ops[i]).op = some b ∧ ∀ B, (out p.2.1).fB B b = B b) ∧ (p.2.1 = i → ∃ b, addrB (envL ops out E0 allL i) (ops[i]).op = some b ∧ ∀ B, (out p.1.1).fB B b = B b) := fun p hm => by
            obtain ⟨s1, s2⟩ := g.ok.spOk p hm
            have ap := SepT.of g.sep p hm
            refine ⟨fun e => ?_, fun e => ?_⟩
            · have := sep_far g s1 s2 ap
              simpa only [e, Array.getElem?_eq_getElem hi, Option.map_some, Option.get!_some] using this
            · have := sep_far g s2 s1 (apart_symm ap)
              simpa only [e, Array.getElem?_eq_getElem hi, Option.map_some, Option.get!_some] using this
          have keyO : ∀ p ∈ ol, p.1.1 = i → ∃ b, addrB (envL ops out E0 allL i) (ops[i]).op = some b ∧ ∀ B, (out p.2).fB B b = B b := fun p hm e => by
            obtain ⟨b, h1, _, h3⟩ := old_far g hm
            refine ⟨b, ?_, h3⟩
            simpa only [e, Array.getElem?_eq_getElem hi, Option.map_some, Option.get!_some] using h1
          obtain ⟨b, hb1⟩ : ∃ b, addrB (envL ops out E0 allL i) (ops[i]).op = some b := by
            rcases hsp with ⟨p, hm, e | e⟩ | ⟨p, hm, e⟩ | h
            · obtain ⟨b, h, _⟩ := (key p hm).1 e; exact ⟨b, h⟩
            · obtain ⟨b, h, _⟩ := (key p hm).2 e; exact ⟨b, h⟩
            · obtain ⟨b, h, _⟩ := keyO p hm e; exact ⟨b, h⟩
            · exact h
          refine .inl ⟨b, hb1, B_same_at g hs hi hLi hp fun j hj hne h => ?_⟩
          rcases h with h | h
          · rcases clash_cmp g.ok hi hj hne (clash_rB hr h).1 (clash_rB hr h).2 with h | ⟨p, hm, e1, e2⟩ | ⟨p, hm, e1, e2⟩ | ⟨p, hm, ⟨e1, e2⟩ | ⟨e1, e2⟩⟩ | h | h
            rotate_right 2
            · obtain ⟨_, hn⟩ := h.2.1
              rw [(isNew_mem hn).1] at hr; cases hr
            · exact .inr (ear j h b hb1)
            · exact .inl h
            · obtain ⟨c, h1, h2⟩ := (key p hm).1 e1
              rw [hb1] at h1; cases h1
              rw [← e2]; exact .inr h2
            · obtain ⟨c, h1, h2⟩ := (key p hm).2 e2
              rw [hb1] at h1; cases h1
              rw [← e1]; exact .inr h2
            · obtain ⟨c, h1, h2⟩ := keyO p hm e1
              rw [hb1] at h1; cases h1
              rw [← e2]; exact .inr h2
            · obtain ⟨_, hn⟩ := (g.ok.olOk p hm).2
              simp only [e2] at hn
              rw [(isNew_mem hn).1] at hr; cases hr
          · rcases ofW j hj hne h with (h | h) | ⟨c, h1, h2⟩
            · exact .inl h
            · exact .inr fun B => by rw [h]
            · rw [hb1] at h1; cases h1
              exact .inr h2
        · exact .inl (B_same g hs hi hLi hp fun j hj hne h => by
            rcases h with h | h
            · rcases clash_cmp g.ok hi hj hne (clash_rB hr h).1 (clash_rB hr h).2 with h | ⟨p, hm, e1, e2⟩ | ⟨p, hm, e1, e2⟩ | ⟨p, hm, ⟨e1, e2⟩ | ⟨e1, e2⟩⟩ | h | h
              rotate_right 2
              · obtain ⟨_, hn⟩ := h.2.1
                rw [(isNew_mem hn).1] at hr; cases hr
              · refine absurd ⟨h.2.2.1.2, ?_⟩ hdat
                cases hq : addrB (envL ops out E0 allL i) (ops[i]).op with
                | none => rfl
                | some b => exact absurd (.inr (.inr ⟨b, hq⟩)) hsp
              · exact .inl h
              · exact absurd (.inl ⟨p, hm, .inl e1⟩) hsp
              · exact absurd (.inl ⟨p, hm, .inr e2⟩) hsp
              · exact absurd (.inr (.inl ⟨p, hm, e1⟩)) hsp
              · obtain ⟨_, hn⟩ := (g.ok.olOk p hm).2
                simp only [e2] at hn
                rw [(isNew_mem hn).1] at hr; cases hr
            · rcases ofW j hj hne h with h | ⟨c, h1, h2⟩
              · exact h
              · exact absurd (.inr (.inr ⟨c, h1⟩)) hsp)
      · exact T_same g hs hi hLi hp fun j hj hne h => by
          rcases h with h | h
          · rcases clash_cmp g.ok hi hj hne (clash_rT hr h).1 (clash_rT hr h).2 with h1 | ⟨p, hm, e1, e2⟩ | ⟨p, hm, e1, e2⟩ | ⟨p, hm, ⟨e1, e2⟩ | ⟨e1, e2⟩⟩ | h1 | h1
            rotate_right 2
            · obtain ⟨_, hn⟩ := h1.2.1
              rw [(isNew_mem hn).2.1] at hr; cases hr
            · rw [(isLoad_mem h1.2.2.1.2).2.1] at hr; cases hr
            · exact .inl h1
            · obtain ⟨k, t, ha, _⟩ := (g.ok.spOk p hm).1
              simp only [e1] at ha
              rw [(addr_mem ha).2.1] at hr; cases hr
            · obtain ⟨k, t, ha, _⟩ := (g.ok.spOk p hm).2
              simp only [e2] at ha
              rw [(addr_mem ha).2.1] at hr; cases hr
            · obtain ⟨k, t, ha, _⟩ := (g.ok.olOk p hm).1
              simp only [e1] at ha
              rw [(addr_mem ha).2.1] at hr; cases hr
            · obtain ⟨_, hn⟩ := (g.ok.olOk p hm).2
              simp only [e2] at hn
              rw [(isNew_mem hn).2.1] at hr; cases hr
          · rcases ofLoud j hj hne (.inl (touch_of (.inr (.inr (.inl hr))))) h with k | k | k
            · exact .inl k
            · rw [(isNew_mem k).2.1] at hr; cases hr
            · rw [(isLoad_mem k.1).2.1] at hr; cases hr
    | call hc ha hd' h =>
      obtain ⟨ts, ho⟩ := callOf_fn hc
      refine .call hc ?_ hd' h
      rw [← ha]
      exact hargs _ fun x hx => by rw [ho]; simp only [Op.operands, Call.operands]; exact Array.mem_append_right _ (by simpa using hx)
    | inv hc hx ha hm hd' h =>
      obtain ⟨ts, ho⟩ := callOf_inv hc
      refine .inv hc ?_ ?_ hm hd' h
      · rw [← hx]; exact operand_same g hs hi hLi hp (by rw [ho]; simp [Op.operands, Call.operands])
      · rw [← ha]
        exact hargs _ fun x hx => by rw [ho]; simp only [Op.operands, Call.operands]; exact Array.mem_append_right _ (by simpa using hx)
    | dyn hc hx hf ha hd' h =>
      obtain ⟨ts, ho⟩ := callOf_dyn hc
      refine .dyn hc ?_ hf ?_ hd' h
      · rw [← hx]; exact operand_same g hs hi hLi hp (by rw [ho]; simp [Op.operands, Call.operands])
      · rw [← ha]
        exact hargs _ fun x hx => by rw [ho]; simp only [Op.operands, Call.operands]; exact Array.mem_append_right _ (by simpa using hx)
    | loud hl hc ha h =>
      obtain ⟨ts, ho⟩ := callOf_fn hc
      have hcall : isCall (ops[i]).op = true := by unfold isCall; rw [hc]; rfl
      have hl' := (wild_loud hi hl).1
      have eS : stL out S0 L ops.size = stL out S0 allL i := by
        have e1 := B_same g hs hi hLi hp fun j hj hne h => .inl (by
          rcases h with h | h
          · exact .inl (loud_cmp hl' hj hne (.inr (touch_of (.inr (.inl h)))))
          · exact ofCall j hj hne hcall h)
        have e2 := T_same g hs hi hLi hp fun j hj hne h => .inl (by
          rcases h with h | h
          · exact .inl (loud_cmp hl' hj hne (.inr (touch_of (.inr (.inr (.inr h))))))
          · exact ofCall j hj hne hcall h)
        have e3 := x_same g hs hi hLi hp fun j hj hne h => .inl (ofCall j hj hne hcall h)
        unfold stL at e1 e2 e3 ⊢
        simp only at e1 e2 e3
        rw [e1, e2, e3]
      rw [eS]
      refine .loud hl hc ?_ h
      rw [← ha]
      exact hargs _ fun x hx => by rw [ho]; simp only [Op.operands, Call.operands]; exact Array.mem_append_right _ (by simpa using hx)
    | own hl hc ha h =>
      obtain ⟨ts, ho⟩ := callOf_fn hc
      have hcall : isCall (ops[i]).op = true := by unfold isCall; rw [hc]; rfl
      obtain ⟨hl1, hl2, hl3⟩ := wild_free hl
      have byFree : ∀ j (hj : j < ops.size), j ≠ i → touches (ops[j]).op = true → cmp ops.toList i j = true ∨ isNew (ops[j]).op = true ∨ isLoad (ops[j]).op = true := fun j hj hne ht' => by
        rcases wild_cmp hl3 hj hne (.inr ht') with k | k | k
        · exact .inl k
        · exact .inr (.inl k)
        · exact .inr (.inr k.1)
      have e2 := T_same g hs hi hLi hp fun j hj hne h => .inl (by
        rcases h with h | h
        · rcases byFree j hj hne (touch_of (.inr (.inr (.inr h)))) with k | k | k
          · exact .inl k
          · rw [(isNew_mem k).2.2.1] at h; cases h
          · rw [(isLoad_mem k).2.2.1] at h; cases h
        · exact ofCall j hj hne hcall h)
      have e3 := x_same g hs hi hLi hp fun j hj hne h => .inl (ofCall j hj hne hcall h)
      have e1 : ∀ b, b < base → (stL out S0 L ops.size).B b = (stL out S0 allL i).B b := fun b hlt => B_same_at g hs hi hLi hp fun j hj hne h => by
        rcases h with h | h
        · rcases byFree j hj hne (touch_of (.inr (.inl h))) with k | k | k
          · exact .inl (.inl k)
          · rcases new_form g ⟨hj, k⟩ with q | ⟨cs, q⟩
            · exact .inr fun B => by rw [q]
            · exact .inr fun B => by rw [q]; exact upd_ne _ _ (by omega)
          · rw [(isLoad_mem k).1] at h; cases h
        · exact .inl (ofCall j hj hne hcall h)
      refine .own hl hc ?_ ⟨fun S1 k1 k2 k3 k4 k5 k6 => h.call S1 (by rw [k1]; rfl) (by rw [k2, e3]) (by rw [k3]; rfl) (by rw [k4]; rfl) (by rw [k5, e2]) (fun b hb => by rw [k6 b hb]; exact e1 b hb), h.loc, h.keep, h.pw⟩
      rw [← ha]
      exact hargs _ fun x hx => by rw [ho]; simp only [Op.operands, Call.operands]; exact Array.mem_append_right _ (by simpa using hx)
end
end
end Go.Sh

/- THE SHADOW, 11: a region that draws its order, whole. Over any program. -/
namespace Go.Sh
open Go.RowKit (Below)

section
variable {P : Program} {sp : Spl} {ol : Old} {ops : Array Oper} {E0 : Env} {S0 : St} {base : Nat} {out : Nat → Out} {L : Nat → Bool}

theorem B_form (g : Given P ops sp ol E0 S0 base out) {j : Nat} (hj : j < ops.size) (hl : ¬ (wildAt ops j = true ∧ isCall (ops[j]).op = true)) : (∀ B, (out j).fB B = B) ∨
    ((memOf (ops[j]).op).wB = true ∧ ((∃ cs, ∀ B, (out j).fB B = upd B (base + j) cs) ∨ (memOf (ops[j]).op).own = false)) := by
  obtain ⟨_, hw, ht, hf⟩ := g.step j hj
  cases hb : (out j).w with
  | false => rw [hf hb]; exact .inl fun _ => rfl
  | true =>
    have := ht hb
    generalize out j = ot at *
    cases this with
    | op hc he =>
      rename_i s e
      have k := evalOp_eff he
      cases e with
      | no => exact .inl fun _ => rfl
      | new cs => exact .inr ⟨k.new cs rfl, .inl ⟨cs, fun _ => rfl⟩⟩
      | set b cs => exact .inr ⟨(k.set b cs rfl).1, .inr (k.set b cs rfl).2⟩
      | tip i k sz => exact .inl fun _ => rfl
      | mov b cs => exact .inr ⟨(k.mov b cs rfl).1, .inr (k.mov b cs rfl).2⟩
    | call => exact .inl fun _ => rfl
    | inv => exact .inl fun _ => rfl
    | dyn => exact .inl fun _ => rfl
    | loud h1 hc ha hlc => exact absurd ⟨(wild_loud hj h1).2, by unfold isCall; rw [hc]; rfl⟩ hl
    | own h1 hc ha hlc => exact absurd ⟨(wild_free h1).2.2, by unfold isCall; rw [hc]; rfl⟩ hl

theorem T_form (g : Given P ops sp ol E0 S0 base out) {j : Nat} (hj : j < ops.size) (hl : ¬ (wildAt ops j = true ∧ isCall (ops[j]).op = true)) : (∀ T, (out j).fT T = T) ∨
    ((memOf (ops[j]).op).wT = true ∧ ((∃ p, ∀ T, (out j).fT T = upd T (base + j) p) ∨ (memOf (ops[j]).op).own = false)) := by
  obtain ⟨_, hw, ht, hf⟩ := g.step j hj
  cases hb : (out j).w with
  | false => rw [hf hb]; exact .inl fun _ => rfl
  | true =>
    have := ht hb
    generalize out j = ot at *
    cases this with
    | op hc he =>
      rename_i s e
      have k := evalOp_eff he
      cases e with
      | no => exact .inl fun _ => rfl
      | new cs => exact .inl fun _ => rfl
      | set b cs => exact .inl fun _ => rfl
      | mov b cs => exact .inl fun _ => rfl
      | tip i k' sz =>
        obtain ⟨h1, h2⟩ := k.tip i k' sz rfl
        refine .inr ⟨h1, ?_⟩
        cases ho : (memOf (ops[j]).op).own with
        | true =>
          have := h2 ho
          subst this
          exact .inl ⟨(k', sz), fun _ => rfl⟩
        | false => exact .inr rfl
    | call => exact .inl fun _ => rfl
    | inv => exact .inl fun _ => rfl
    | dyn => exact .inl fun _ => rfl
    | loud h1 hc ha hlc => exact absurd ⟨(wild_loud hj h1).2, by unfold isCall; rw [hc]; rfl⟩ hl
    | own h1 hc ha hlc => exact absurd ⟨(wild_free h1).2.2, by unfold isCall; rw [hc]; rfl⟩ hl

theorem upd_comm {α : Type} (f : Nat → Option α) {i j : Nat} (x y : α) (h : i ≠ j) : upd (upd f i x) j y = upd (upd f j y) i x := by
  funext k
  unfold upd
  by_cases a : k = j
  · subst a
    rw [if_pos rfl, if_neg (fun e => h e.symm), if_pos rfl]
  · rw [if_neg a]
    by_cases b : k = i
    · rw [if_pos b, if_pos b]
    · rw [if_neg b, if_neg b, if_neg a]

theorem clash_w {a b : Mem} (h : clash a b = false) : (a.wB = true → b.wB = true → a.own = true ∧ b.own = true) ∧ (a.wT = true → b.wT = true → a.own = true ∧ b.own = true) := by
  unfold clash at h
  simp only [Bool.or_eq_false_iff, Bool.and_eq_false_iff, Bool.not_eq_false'] at h
  obtain ⟨⟨_, h1⟩, h2⟩ := h
  refine ⟨fun x y => ?_, fun x y => ?_⟩
  · simp only [x, y, Bool.true_eq_false, Bool.and_eq_true, false_or] at h1; exact h1
  · simp only [x, y, Bool.true_eq_false, Bool.and_eq_true, false_or] at h2; exact h2

theorem quiet_pair (g : Given P ops sp ol E0 S0 base out) {i j : Nat} (hi : i < ops.size) (hj : j < ops.size) (hlt : i < j) (h1 : cmp ops.toList j i = false) (h2 : cmp ops.toList i j = false) :
    (wildAt ops i = true ∧ isCall (ops[i]).op = true → (touches (ops[j]).op = false ∨ isNew (ops[j]).op = true ∨ isLoad (ops[j]).op = true) ∧ ¬ (wildAt ops j = true ∧ isCall (ops[j]).op = true)) ∧
    (wildAt ops j = true ∧ isCall (ops[j]).op = true → (touches (ops[i]).op = false ∨ isNew (ops[i]).op = true ∨ isLoad (ops[i]).op = true) ∧ ¬ (wildAt ops i = true ∧ isCall (ops[i]).op = true)) ∧ (clash (memOf (ops[j]).op) (memOf (ops[i]).op) = false ∨ SpHas sp j i ∨ OlHas ol j i ∨ EarHas ops j i) := by
  have side : ∀ i j (hi : i < ops.size) (hj : j < ops.size), j ≠ i → cmp ops.toList i j = false → wildAt ops i = true ∧ isCall (ops[i]).op = true → (touches (ops[j]).op = false ∨ isNew (ops[j]).op = true ∨ isLoad (ops[j]).op = true) ∧ ¬ (wildAt ops j = true ∧ isCall (ops[j]).op = true) := fun i j hi hj hne hn h => by
    refine ⟨?_, fun k => ?_⟩
    · cases hb : touches (ops[j]).op with
      | false => exact .inl rfl
      | true =>
        rcases wild_cmp h.1 hj hne (.inr hb) with q | q | q
        · rw [q] at hn; cases hn
        · exact .inr (.inl q)
        · exact .inr (.inr q.1)
    · have hcj : callOf (ops[j]).op ≠ none := fun e => by have := k.2; unfold isCall at this; rw [e] at this; cases this
      rcases wild_cmp h.1 hj hne (.inl k.2) with q | q | q
      · rw [q] at hn; cases hn
      · exact hcj (isNew_mem q).2.2.2
      · exact hcj (isLoad_mem q.1).2.2.2
  refine ⟨side i j hi hj (by omega) h2, side j i hj hi (by omega) h1, ?_⟩
  rcases g.ok.pair j i hj hi hlt with hc | ⟨_, _, h⟩
  · rw [hc] at h1; cases h1
  · exact h

theorem not_touch {op : Op} (h : touches op = false) : (memOf op).wB = false ∧ (memOf op).wT = false := by
  unfold touches at h
  simp only [Bool.or_eq_false_iff] at h
  exact ⟨h.1.1.2, h.2⟩

theorem B_comm (g : Given P ops sp ol E0 S0 base out) (hs : Shut ops L) {i j : Nat} (hi : i < ops.size) (hj : j < ops.size) (hLi : L i = false) (hLj : L j = true) (hlt : i < j) (B : Nat → Option (List SV)) : (out j).fB ((out i).fB B) = (out i).fB ((out j).fB B) := by
  obtain ⟨h1, h2⟩ := not_cmp g.ok hs hi hj hLi hLj hlt
  obtain ⟨q1, q2, q3⟩ := quiet_pair g hi hj hlt h1 h2
  have beside : ∀ i j (hi : i < ops.size) (hj : j < ops.size), j ≠ i → cmp ops.toList i j = false → isCall (ops[i]).op = true → (touches (ops[j]).op = false ∨ isNew (ops[j]).op = true ∨ isLoad (ops[j]).op = true) → ¬ (wildAt ops j = true ∧ isCall (ops[j]).op = true) → ∀ B, (out j).fB ((out i).fB B) = (out i).fB ((out j).fB B) := fun i j hi hj hne hn hc t1 t2 B => by
    rcases t1 with t1 | t1 | t1
    · rcases B_form g hj t2 with h | ⟨h, _⟩
      · rw [h, h]
      · rw [(not_touch t1).1] at h; cases h
    · rcases new_form g ⟨hj, t1⟩ with h | ⟨cs, h⟩
      · rw [h, h]
      · rcases wild_form g hi hc with k | k | k
        · rw [k.1, k.1]
        · cases hb : touches (ops[j]).op with
          | true => rw [loud_cmp k hj hne (.inr hb)] at hn; cases hn
          | false =>
            have := (B_form g hj t2)
            rcases this with h' | ⟨h', _⟩
            · rw [h', h']
            · rw [(not_touch hb).1] at h'; cases h'
        · rw [h, h, k.2.2.2.1 _ _ _ (by omega)]
    · rcases B_form g hj t2 with h | ⟨h, _⟩
      · rw [h, h]
      · rw [(isLoad_mem t1).1] at h; cases h
  by_cases li : wildAt ops i = true ∧ isCall (ops[i]).op = true
  · obtain ⟨t1, t2⟩ := q1 li
    exact beside i j hi hj (by omega) h2 li.2 t1 t2 B
  by_cases lj : wildAt ops j = true ∧ isCall (ops[j]).op = true
  · obtain ⟨t1, t2⟩ := q2 lj
    exact (beside j i hj hi (by omega) h1 lj.2 t1 t2 B).symm
  rcases q3 with q3 | ⟨p, hm, rfl, rfl⟩ | ⟨p, hm, hpp⟩ | ⟨_, _, ⟨_, hl⟩, _⟩
  case inr.inr.inr =>
    have key : ∀ B, (out i).fB B = B := fB_id g hi (isLoad_mem hl).1 (fun _ => by unfold isCall; rw [(isLoad_mem hl).2.2.2]; rfl)
    rw [key, key]
  case inr.inr.inl =>
    obtain ⟨s1, s2⟩ := g.ok.olOk p hm
    have hbl := OldT.of g.old p hm
    cases hb : refOf (E0 p.1.2) with
    | none => rw [hb] at hbl; exact hbl.elim
    | some b =>
      rw [hb] at hbl
      have hbl : b < base := hbl
      have key : ∀ B, (out p.1.1).fB ((out p.2).fB B) = (out p.2).fB ((out p.1.1).fB B) := fun B => by
        rcases at_form g s1 hb with h | ⟨cs, h⟩
        · rw [h, h]
        · rcases new_form g s2 with k | ⟨ds, k⟩
          · rw [k, k]
          · rw [h, k, k, h]; exact upd_comm _ _ _ (by omega)
      rcases hpp with ⟨e1, e2⟩ | ⟨e1, e2⟩
      · rw [← e1, ← e2]; exact key B
      · rw [← e1, ← e2]; exact (key B).symm
  case inr.inl =>
    obtain ⟨s1, s2⟩ := g.ok.spOk p hm
    have ap := SepT.of g.sep p hm
    cases hb : refOf (E0 p.1.2) with
    | none => rw [hb] at ap; exact ap.elim
    | some b =>
      cases hc : refOf (E0 p.2.2) with
      | none => rw [hb, hc] at ap; exact ap.elim
      | some c =>
        rw [hb, hc] at ap
        rcases at_form g s1 hb with h | ⟨cs, h⟩
        · rw [h, h]
        · rcases at_form g s2 hc with k | ⟨ds, k⟩
          · rw [k, k]
          · rw [h, k, k, h]; exact upd_comm _ _ _ (fun e => ap e.symm)
  rcases B_form g hi li with h | ⟨hw, h⟩
  · rw [h, h]
  rcases B_form g hj lj with k | ⟨kw, k⟩
  · rw [k, k]
  obtain ⟨oj, oi⟩ := (clash_w q3).1 kw hw
  rcases h with ⟨cs, h⟩ | h
  · rcases k with ⟨ds, k⟩ | k
    · rw [h, k, k, h]; exact upd_comm _ _ _ (by omega)
    · rw [k] at oj; cases oj
  · rw [h] at oi; cases oi

theorem T_comm (g : Given P ops sp ol E0 S0 base out) (hs : Shut ops L) {i j : Nat} (hi : i < ops.size) (hj : j < ops.size) (hLi : L i = false) (hLj : L j = true) (hlt : i < j) (T : Nat → Option (Nat × Nat)) : (out j).fT ((out i).fT T) = (out i).fT ((out j).fT T) := by
  obtain ⟨h1, h2⟩ := not_cmp g.ok hs hi hj hLi hLj hlt
  obtain ⟨q1, q2, q3⟩ := quiet_pair g hi hj hlt h1 h2
  have still : ∀ j (hj : j < ops.size), (touches (ops[j]).op = false ∨ isNew (ops[j]).op = true ∨ isLoad (ops[j]).op = true) → ¬ (wildAt ops j = true ∧ isCall (ops[j]).op = true) → ∀ T, (out j).fT T = T := fun j hj t1 t2 => by
    rcases T_form g hj t2 with h | ⟨h, _⟩
    · exact h
    · rcases t1 with t1 | t1 | t1
      · rw [(not_touch t1).2] at h; cases h
      · rw [(isNew_mem t1).2.2.1] at h; cases h
      · rw [(isLoad_mem t1).2.2.1] at h; cases h
  by_cases li : wildAt ops i = true ∧ isCall (ops[i]).op = true
  · obtain ⟨t1, t2⟩ := q1 li
    have h := still j hj t1 t2
    rw [h, h]
  by_cases lj : wildAt ops j = true ∧ isCall (ops[j]).op = true
  · obtain ⟨t1, t2⟩ := q2 lj
    have h := still i hi t1 t2
    rw [h, h]
  rcases q3 with q3 | ⟨p, hm, rfl, rfl⟩ | ⟨p, hm, hpp⟩ | ⟨_, _, ⟨_, hl⟩, _⟩
  case inr.inr.inr =>
    have key : ∀ T, (out i).fT T = T := fT_id g hi (isLoad_mem hl).2.2.1 (fun _ => by unfold isCall; rw [(isLoad_mem hl).2.2.2]; rfl)
    rw [key, key]
  case inr.inr.inl =>
    obtain ⟨hlt1, t, ha, _⟩ := (g.ok.olOk p hm).1
    have key : ∀ T, (out p.1.1).fT T = T := fT_id g hlt1 (addr_mem ha).1 (fun _ => (addr_mem ha).2.2)
    rcases hpp with ⟨e1, e2⟩ | ⟨e1, e2⟩
    · rw [← e1, key, key]
    · rw [← e1, key, key]
  case inr.inl =>
    obtain ⟨k, t, ha, _⟩ := (g.ok.spOk p hm).1
    have := fT_id g hj (addr_mem ha).1 (fun _ => (addr_mem ha).2.2)
    rw [this, this]
  rcases T_form g hi li with h | ⟨hw, h⟩
  · rw [h, h]
  rcases T_form g hj lj with k | ⟨kw, k⟩
  · rw [k, k]
  obtain ⟨oj, oi⟩ := (clash_w q3).2 kw hw
  rcases h with ⟨cs, h⟩ | h
  · rcases k with ⟨ds, k⟩ | k
    · rw [h, k, k, h]; exact upd_comm _ _ _ (by omega)
    · rw [k] at oj; cases oj
  · rw [h] at oi; cases oi

theorem x_comm (g : Given P ops sp ol E0 S0 base out) (hs : Shut ops L) {i j : Nat} (hi : i < ops.size) (hj : j < ops.size) (hLi : L i = false) (hLj : L j = true) (hlt : i < j) (x : Nat) : (out j).fx ((out i).fx x) = (out i).fx ((out j).fx x) := by
  obtain ⟨h1, h2⟩ := not_cmp g.ok hs hi hj hLi hLj hlt
  obtain ⟨q1, q2, q3⟩ := quiet_pair g hi hj hlt h1 h2
  by_cases li : wildAt ops i = true ∧ isCall (ops[i]).op = true
  · have := fx_id g hj (fun h => by
      cases hb : isCall (ops[j]).op with
      | false => rfl
      | true => exact absurd ⟨h, hb⟩ (q1 li).2)
    rw [this, this]
  · have := fx_id g hi (fun h => by
      cases hb : isCall (ops[i]).op with
      | false => rfl
      | true => exact absurd ⟨h, hb⟩ li)
    rw [this, this]

theorem E_comm (g : Given P ops sp ol E0 S0 base out) {i j : Nat} (hi : i < ops.size) (hj : j < ops.size) (hlt : i < j) (E : Env) : stE ops out j (stE ops out i E) = stE ops out i (stE ops out j E) := by
  funext k
  rw [stE_at, stE_at, stE_at, stE_at]
  by_cases a : (ops[j]?).bind (·.dst) = some k
  · by_cases b : (ops[i]?).bind (·.dst) = some k
    · rw [Array.getElem?_eq_getElem hj] at a
      rw [Array.getElem?_eq_getElem hi] at b
      exact absurd (by simpa using b) (g.ok.dst j i hj hi hlt k (by simpa using a))
    · rw [if_pos a, if_neg b, if_pos a]
  · rw [if_neg a]
    by_cases b : (ops[i]?).bind (·.dst) = some k
    · rw [if_pos b, if_pos b]
    · rw [if_neg b, if_neg b, if_neg a]

abbrev withL (L : Nat → Bool) (i : Nat) : Nat → Bool := fun j => L j || j == i

theorem envL_insert (g : Given P ops sp ol E0 S0 base out) {i : Nat} (hi : i < ops.size) (hLi : L i = false) : envL ops out E0 (withL L i) ops.size = (envL ops out E0 L ops.size).put (ops[i]).dst (out i).s := by
  unfold envL
  rw [foldF_insert hi hLi (fun j h1 h2 _ y => E_comm g hi h2 h1 y)]
  unfold stE
  rw [Array.getElem?_eq_getElem hi]

theorem stL_insert (g : Given P ops sp ol E0 S0 base out) (hs : Shut ops L) {i : Nat} (hi : i < ops.size) (hLi : L i = false) : stL out S0 (withL L i) ops.size = (stL out S0 L ops.size).out (out i) := by
  unfold stL St.out
  simp only
  rw [foldF_insert hi hLi (fun j h1 h2 h3 y => B_comm g hs hi h2 hLi h3 h1 y), foldF_insert hi hLi (fun j h1 h2 h3 y => T_comm g hs hi h2 hLi h3 h1 y), foldF_insert hi hLi (fun j h1 h2 h3 y => x_comm g hs hi h2 hLi h3 h1 y)]

def cntL (L : Nat → Bool) (n : Nat) : Nat := foldF (fun _ x => x + 1) L n 0
theorem cntL_le (L : Nat → Bool) : ∀ n, cntL L n ≤ n
  | 0 => Nat.le_refl _
  | n + 1 => by
    have := cntL_le L n
    unfold cntL at *
    simp only [foldF]
    split <;> omega
theorem cntL_all : ∀ n, n ≤ cntL L n → ∀ j, j < n → L j = true
  | 0, _, j, hj => by omega
  | n + 1, h, j, hj => by
    have h1 := cntL_le L n
    unfold cntL at *
    simp only [foldF] at h
    split at h
    · rename_i hn
      by_cases e : j = n
      · subst e; exact hn
      · exact cntL_all n (by unfold cntL; omega) j (by omega)
    · omega

theorem any_ok (g : Given P ops sp ol E0 S0 base out) {m0 : Nat → Nat} {w0 : World} {G : Gh} {w1 : World} {H : Nat → Prop} (hH : ∀ b, H b → b < base) {QQ : Exit → Act → World → Prop}
    (hQ : ∀ G' a' w', Rel m0 w0 G' (envL ops out E0 allL ops.size) (stL out S0 allL ops.size) (fun b => (stL out S0 allL ops.size).nx ≤ b ∨ H b) a' w' → S0.nx ≤ (stL out S0 allL ops.size).nx → Fut G w1 G' w' → QQ .normal a' w') :
    ∀ (fuel : Nat) (listed : Array Bool) (a : Act) (w : World) (G' : Gh), listed.size = ops.size → ops.size ≤ fuel + cntL (fun i => listed.getD i false) ops.size → Shut ops (fun i => listed.getD i false) →
      S0.nx ≤ (stL out S0 (fun i => listed.getD i false) ops.size).nx → base + ops.size ≤ (stL out S0 (fun i => listed.getD i false) ops.size).nx →
      Rel m0 w0 G' (envL ops out E0 (fun i => listed.getD i false) ops.size) (stL out S0 (fun i => listed.getD i false) ops.size) (fun b => (base ≤ b ∧ b < base + ops.size ∧ listed.getD (b - base) false = false) ∨ (stL out S0 (fun i => listed.getD i false) ops.size).nx ≤ b ∨ H b) a w →
      Fut G w1 G' w → wpAny P .any ops QQ fuel listed a w := by
  have done : ∀ (listed : Array Bool) (a : Act) (w : World) (G' : Gh), (∀ j, j < ops.size → listed.getD j false = true) → S0.nx ≤ (stL out S0 (fun i => listed.getD i false) ops.size).nx →
      Rel m0 w0 G' (envL ops out E0 (fun i => listed.getD i false) ops.size) (stL out S0 (fun i => listed.getD i false) ops.size) (fun b => (base ≤ b ∧ b < base + ops.size ∧ listed.getD (b - base) false = false) ∨ (stL out S0 (fun i => listed.getD i false) ops.size).nx ≤ b ∨ H b) a w →
      Fut G w1 G' w → QQ .normal a w := by
    intro listed a w G' hall hnx hr f
    have eE : envL ops out E0 (fun i => listed.getD i false) ops.size = envL ops out E0 allL ops.size := foldF_congr fun j hj => .inr (hall j hj)
    have eS : stL out S0 (fun i => listed.getD i false) ops.size = stL out S0 allL ops.size := by
      unfold stL
      rw [foldF_congr (f := fun j => (out j).fB) (M := allL) fun j hj => .inr (hall j hj), foldF_congr (f := fun j => (out j).fT) (M := allL) fun j hj => .inr (hall j hj), foldF_congr (f := fun j => (out j).fx) (M := allL) fun j hj => .inr (hall j hj)]
    rw [eE, eS] at hr
    rw [eS] at hnx
    exact hQ G' a w (hr.less fun b hb => .inr hb) hnx f
  have noReady : ∀ (listed : Array Bool), listed.size = ops.size → Region.ready .any ops listed = [] → ∀ j, j < ops.size → listed.getD j false = true := by
    intro listed hsz h0 j
    induction j using Nat.strongRecOn with
    | _ j ih =>
      intro hj
      cases hb : listed.getD j false with
      | true => rfl
      | false =>
        have : j ∈ Region.ready .any ops listed := mem_ready.2 ⟨by
          simp only [Array.getD_eq_getD_getElem?] at hb ⊢
          rw [Array.getElem?_eq_getElem (by omega)] at hb ⊢
          simpa using hb, ops[j], Array.getElem?_eq_getElem hj, fun e he hbind => by
          have hlt := g.ok.back j hj e (by simpa using he) hbind
          exact ih e.on hlt (by omega)⟩
        rw [h0] at this; cases this
  intro fuel
  induction fuel with
  | zero =>
    intro listed a w G' hsz hcnt hs hnx hnx2 hr f
    have hall := cntL_all ops.size (by omega : ops.size ≤ cntL (fun i => listed.getD i false) ops.size)
    refine ⟨?_, done listed a w G' hall hnx hr f⟩
    rw [List.eq_nil_iff_forall_not_mem]
    intro j hj
    obtain ⟨h1, o, ho, _⟩ := mem_ready.1 hj
    have hjl := (Array.getElem?_eq_some_iff.1 ho).1
    have h2 := hall j hjl
    simp only [Array.getD_eq_getD_getElem?] at h1 h2
    rw [Array.getElem?_eq_getElem (by omega)] at h1 h2
    simp at h1 h2
    rw [h1] at h2; cases h2
  | succ fuel ih =>
    intro listed a w G' hsz hcnt hs hnx hnx2 hr f
    refine ⟨fun h0 => done listed a w G' (noReady listed hsz h0) hnx hr f, fun i hi => ?_⟩
    obtain ⟨h1, o, ho, hpre⟩ := mem_ready.1 hi
    obtain ⟨hlt, hoi⟩ := Array.getElem?_eq_some_iff.1 ho
    subst hoi
    generalize hLdef : (fun i => listed.getD i false) = L at *
    have hLi : L i = false := by
      rw [← hLdef]
      simp only [Array.getD_eq_getD_getElem?] at h1 ⊢
      rw [Array.getElem?_eq_getElem (by omega)] at h1 ⊢
      simpa using h1
    have hp : ∀ e ∈ (ops[i]).after.toList, Region.binds .any e = true → L e.on = true := fun e he hb => by
      rw [← hLdef]; exact hpre e (by simpa using he) hb
    have hL' : (fun j => (listed.setIfInBounds i true).getD j false) = withL L i := by
      funext j
      rw [← hLdef]
      simp only [withL, Array.getD_eq_getD_getElem?, Array.getElem?_setIfInBounds]
      by_cases e : i = j
      · subst e; simp [hsz, hlt]
      · rw [if_neg e]
        have : (j == i) = false := by simp; omega
        rw [this, Bool.or_false]
    have hs' : Shut ops (withL L i) := by
      intro j hj hLj e he hb
      simp only [withL, Bool.or_eq_true, beq_iff_eq] at hLj ⊢
      rcases hLj with h | h
      · exact .inl (hs j hj h e he hb)
      · subst h; exact .inl (hp e he hb)
    have hcnt' : ops.size ≤ fuel + cntL (withL L i) ops.size := by
      have : cntL (withL L i) ops.size = cntL L ops.size + 1 := by
        unfold cntL
        exact foldF_insert hlt hLi (fun _ _ _ _ _ => rfl)
      omega
    obtain ⟨hd, hw, hhow, hskip⟩ := step_same g hs hlt hLi hp
    have hd := dstOk_ok hd
    have eE := envL_insert g hlt hLi
    have eS := stL_insert g hs hlt hLi
    have ihr := fun a w G' => ih (listed.setIfInBounds i true) a w G' (by simpa using hsz)
    simp only [hL'] at ihr
    have hnewF : ∀ b, (listed.setIfInBounds i true).getD (b - base) false = withL L i (b - base) := fun b => congrFun hL' (b - base)
    have holdF : ∀ b, listed.getD (b - base) false = L (b - base) := fun b => congrFun hLdef (b - base)
    unfold wpOp
    rw [ho]
    simp only
    rw [wantS_ok hr hw]
    cases hb : (out i).w with
    | false =>
      rw [if_neg (by simp)]
      have e0 := hskip hb
      have eS' : stL out S0 (withL L i) ops.size = stL out S0 L ops.size := by rw [eS, e0]; rfl
      have eE' : envL ops out E0 (withL L i) ops.size = (envL ops out E0 L ops.size).put (ops[i]).dst (.d (.v undef)) := by rw [eE, e0]
      refine ihr _ _ G' hcnt' hs' (by rw [eS']; exact hnx) (by rw [eS']; exact hnx2) ?_ f
      rw [eE', eS']
      refine (hr.less (fun b hb => ?_)).put hd (.d (.v rfl))
      rcases hb with ⟨b1, b2, b3⟩ | hb
      · refine .inl ⟨b1, b2, ?_⟩
        rw [hnewF b] at b3
        rw [holdF b]
        simp only [withL, Bool.or_eq_false_iff] at b3
        exact b3.1
      · exact .inr hb
    | true =>
      rw [if_pos rfl]
      have hop := (hhow hb).opS
      refine .inl (hop.2 m0 w0 G' _ a w hr (.inl ⟨by omega, by omega, by rw [holdF]; simpa using hLi⟩) (fun b hb => .inr (.inl hb)) _ _ (fun G'' u w' hu hr' f' => ?_))
      have hk := hop.1
      refine ihr _ _ G'' hcnt' hs' (by rw [eS]; exact Nat.le_trans hnx hk.nx) (by rw [eS]; exact Nat.le_trans hnx2 hk.nx) ?_ (f.trans f')
      rw [eE, eS]
      have hx := hk.nx
      refine (hr'.less (fun b hb => ?_)).put (fun k hk' => by rw [hk.n]; exact hd k hk') hu
      rcases hb with ⟨b1, b2, b3⟩ | hb | hb
      · rw [hnewF b] at b3
        simp only [withL, Bool.or_eq_false_iff, beq_eq_false_iff_ne] at b3
        exact ⟨.inl ⟨b1, b2, by rw [holdF b]; exact b3.1⟩, by omega, by omega⟩
      · exact ⟨.inr (.inl (by omega)), by omega, by omega⟩
      · have := hH b hb
        exact ⟨.inr (.inr hb), by omega, by omega⟩

theorem foldF_none {X : Type} {f : Nat → X → X} {L : Nat → Bool} : ∀ {n : Nat} {x : X}, (∀ j, j < n → L j = false) → foldF f L n x = x
  | 0, x, h => rfl
  | n + 1, x, h => by
    simp only [foldF]
    rw [if_neg (by rw [h n (by omega)]; simp)]
    exact foldF_none fun j hj => h j (by omega)

theorem Tr.len {lo : Nat → Bool} : ∀ {l : List Oper} {r : List Out} {i : Nat} {E : Env} {S : St} {E' : Env} {S' : St}, Tr lo P ops base i l E S r E' S' → r.length = l.length
  | [], [], _, _, _, _, _, _ => rfl
  | o :: l, ot :: r, i, E, S, E', S', h => by simp [Tr.len h.2]
  | [], _ :: _, _, _, _, _, _, h => h.elim
  | _ :: _, [], _, _, _, _, _, h => h.elim

theorem no_new {m0 : Nat → Nat} {w0 : World} {G : Gh} {E : Env} {S : St} {H : Nat → Prop} {a : Act} {w : World} (hr : Rel m0 w0 G E S (fun b => S.nx ≤ b ∨ H b) a w) {x : Nat} (hx : S.nx ≤ x) : S.B x = none := by
  cases hb : S.B x with
  | none => rfl
  | some cs =>
    exfalso
    have ho := hr.more.ofresh x (.inl hx)
    obtain ⟨B, _, _, h1, _⟩ := hr.box x cs hb ho
    rw [(hr.fresh x (.inl hx)).1] at h1; cases h1
theorem CS.draw {id : Nat} {ops : Array Oper} {E : Env} {S : St} {Q : Exit → Env → St → Prop} (sp : Spl) (ol : Old) (hok : drawOk P ops sp ol = true) (hsp : SepT sp E) (hol : OldT ol S.nx E) (h : VL (drawLo ops) P ops S.nx 0 ops.toList E (S.adv ops.size) (fun E' S' => Q .normal E' S')) : CS P (.region id ops true) E S Q := by
  intro m0 w0 G a w H hH hr QQ hQ
  have ok := drawOk_ok hok
  obtain ⟨r, E', S', htr, hq⟩ := VL.trace h (by simp [drawLo])
  have hlen := Tr.len htr
  simp only [Array.length_toList] at hlen
  obtain ⟨h1, h2, h3⟩ := Tr.at (E0 := E) (S0 := S.adv ops.size) (out := fun j => r.getD j ⟨false, .d (.v undef), fun x => x, fun x => x, fun x => x⟩) htr (fun k hk => by simp) (fun k hk => by
    have hk' : k < r.length := by rw [hlen]; simpa using hk
    rw [Nat.zero_add, List.getD_eq_getElem?_getD, List.getElem?_eq_getElem hk', Option.getD_some]) rfl rfl
  simp only [Nat.zero_add, Array.length_toList] at h1 h2 h3
  have g : Given P ops sp ol E (S.adv ops.size) S.nx (fun j => r.getD j ⟨false, .d (.v undef), fun x => x, fun x => x, fun x => x⟩) := ⟨ok, fun k hk => by simpa using h1 k hk, hr.few, hsp, hol, fun q _ => no_new hr (by omega)⟩
  have hL : (fun i => (Array.replicate ops.size false).getD i false) = fun _ => false := by
    funext i
    simp only [Array.getD_eq_getD_getElem?, Array.getElem?_replicate]
    split <;> rfl
  have eE : envL ops (fun j => r.getD j ⟨false, .d (.v undef), fun x => x, fun x => x, fun x => x⟩) E (fun _ => false) ops.size = E := foldF_none fun _ _ => rfl
  have eS : stL (fun j => r.getD j ⟨false, .d (.v undef), fun x => x, fun x => x, fun x => x⟩) (S.adv ops.size) (fun _ => false) ops.size = S.adv ops.size := by
    unfold stL
    rw [foldF_none fun _ _ => rfl, foldF_none fun _ _ => rfl, foldF_none fun _ _ => rfl]
  refine wp_region_any ok.mixed ?_
  refine any_ok g (m0 := m0) (w0 := w0) (G := G) (w1 := w) hH (fun G' a' w' hr' hnx f => ?_) ops.size (Array.replicate ops.size false) a w.drew G (by simp) (by omega) (fun i hi hL' => ?_) ?_ ?_ ?_ (fut_draw G w)
  · rw [← h2, ← h3] at hr'
    rw [← h3] at hnx
    refine hQ .normal G' E' S' a' w' hq ⟨?_, ?_, ?_, ?_⟩ hr' f
    · rw [h3]; rfl
    · rw [h3]; rfl
    · rw [h3]; rfl
    · simp only [St.adv] at hnx; omega
  · rw [hL] at hL'; cases hL'
  · rw [hL, eS]; exact Nat.le_refl _
  · rw [hL, eS]; simp [St.adv]
  · rw [hL, eS, eE]
    refine (hr.draw.adv ops.size).less fun b hb => ?_
    simp only [St.adv] at hb
    rcases hb with ⟨hb, _, _⟩ | hb | hb
    · exact .inl hb
    · exact .inl (by omega)
    · exact .inr hb
end
end Go.Sh

/- THE SHADOW, 12: code as a proposition without machine, and the words by which it is reckoned. Over any program. -/
namespace Go.Sh
open Go.RowKit (Below)

section
variable {P : Program} {E E' : Env} {S S' : St}

def Cnd (r : Option SV) (x y : Prop) : Prop := match r with | some (.d (.v (.bool b))) => Br b x y | _ => False

def VC (P : Program) : Code → Env → St → (Exit → Env → St → Prop) → Prop
  | .skip, E, S, Q => Q .normal E S
  | .label _, E, S, Q => Q .normal E S
  | .exit id, E, S, Q => Q (.exit id) E S
  | .ret, E, S, Q => Q .ret E S
  | .seq x y, E, S, Q => VC P x E S (Then (fun E' S' => VC P y E' S' Q) Q)
  | .block id c, E, S, Q => VC P c E S (InBlock id Q)
  | .cond c x y, E, S, Q => Cnd (evalO E c) (VC P x E S Q) (VC P y E S Q)
  | .region _ ops false, E, S, Q => VL (fun _ => true) P ops S.nx 0 ops.toList E (S.adv ops.size) (fun E' S' => Q .normal E' S')
  | .region _ ops true, E, S, Q => (∃ sp ol, drawOk P ops sp ol = true ∧ SepT sp E ∧ OldT ol S.nx E) ∧ VL (drawLo ops) P ops S.nx 0 ops.toList E (S.adv ops.size) (fun E' S' => Q .normal E' S')
  | c, E, S, Q => CS P c E S Q

theorem VC.sound : ∀ {c : Code} {E : Env} {S : St} {Q : Exit → Env → St → Prop}, VC P c E S Q → CS P c E S Q
  | .skip, E, S, Q, h => CS.skip h
  | .label _, E, S, Q, h => CS.label h
  | .exit id, E, S, Q, h => CS.exit h
  | .ret, E, S, Q, h => CS.ret h
  | .seq x y, E, S, Q, h => CS.seq ((VC.sound (c := x) h).mono (fun ex E' S' q => by
      cases ex with
      | normal => exact VC.sound (c := y) q
      | _ => exact q))
  | .block id c, E, S, Q, h => CS.block (VC.sound (c := c) h)
  | .cond c x y, E, S, Q, h => by
    unfold VC Cnd at h
    split at h
    · rename_i b hb
      exact CS.cond hb (fun e => VC.sound (h.1 e)) (fun e => VC.sound (h.2 e))
    · exact h.elim
  | .region id ops false, E, S, Q, h => by
    have := CS.region (P := P) (id := id) (ops := ops.toList) (Q := Q) (E := E) (S := S) (by
      have h3 := VL.sound (P := P) (ops := ops) h
      simpa using h3)
    simpa using this
  | .region id ops true, E, S, Q, h => by
    obtain ⟨⟨sp, ol, h1, h2, h4⟩, h3⟩ := h
    exact CS.draw sp ol h1 h2 h4 h3
  | .loop c, E, S, Q, h => h
  | .rangeFunc .., E, S, Q, h => h
  | .scope _, E, S, Q, h => h
  | .goto _, E, S, Q, h => h
  | .refuse _, E, S, Q, h => h

abbrev Cd := Inhabited (Code)
abbrev Cd.c (self : Cd) : Code := self.default
abbrev Ar := Inhabited (Array Oper)
abbrev Ar.a (self : Ar) : Array Oper := self.default
abbrev Ls := Inhabited (List Oper)
abbrev Ls.l (self : Ls) : List Oper := self.default
abbrev Oc := Inhabited (Oper)
abbrev Oc.o (self : Oc) : Oper := self.default
abbrev Eh := Inhabited (Env)
abbrev Eh.e (self : Eh) : Env := self.default
def loOf (dr : Bool) (ops : Array Oper) : Nat → Bool := match dr with | true => drawLo ops | false => fun _ => true
def VLt (_ : Bool) (dr : Bool) (P : Program) [A : Ar] (base i : Nat) [l : Ls] (E : Env) (S : St) (Q : Env → St → Prop) : Prop := VL (loOf dr A.a) P A.a base i l.l E S Q
def VCt (_ : Bool) (P : Program) [c : Cd] (E : Env) (S : St) (Q : Exit → Env → St → Prop) : Prop := VC P c.c E S Q
def LoopT (P : Program) [c : Cd] (E : Env) (S : St) (Q : Exit → Env → St → Prop) : Prop := CS P (.loop c.c) E S Q
def DrawT (P : Program) [A : Ar] (E : Env) (n : Nat) : Prop := ∃ sp ol, drawOk P A.a sp ol = true ∧ SepT sp E ∧ OldT ol n E
theorem DrawT.mk {P : Program} {A : Ar} {E : Env} {n : Nat} (h : drawOk P A.a [] [] = true) : @DrawT P A E n := ⟨[], [], h, trivial, trivial⟩
theorem DrawT.sp {P : Program} {A : Ar} {E : Env} {n : Nat} (sp : Spl) (h : drawOk P A.a sp [] = true) (k : SepT sp E) : @DrawT P A E n := ⟨sp, [], h, k, trivial⟩
theorem DrawT.ol {P : Program} {A : Ar} {E : Env} {n : Nat} (ol : Old) (h : drawOk P A.a [] ol = true) (k : OldT ol n E) : @DrawT P A E n := ⟨[], ol, h, trivial, k⟩
@[simp] theorem OldT_nil {n : Nat} {E : Env} : OldT [] n E = True := rfl
@[simp] theorem OldT_cons {E : Env} (x : Nat × Nat) (y n : Nat) (l : Old) : OldT ((x, y) :: l) n E = (below n (refOf (E x.2)) ∧ OldT l n E) := rfl
@[simp] theorem below_some (n b : Nat) : below n (some b) = (b < n) := rfl
@[simp] theorem SepT_nil {E : Env} : SepT [] E = True := rfl
@[simp] theorem SepT_cons {E : Env} (x y : Nat × Nat) (l : Spl) : SepT ((x, y) :: l) E = (apart (refOf (E x.2)) (refOf (E y.2)) ∧ SepT l E) := rfl
@[simp] theorem refOf_some (b off : Nat) : refOf (some (.op b off)) = some b := rfl
@[simp] theorem apart_some (b c : Nat) : apart (some b) (some c) = (b ≠ c) := rfl
def LoudT (dr : Bool) [A : Ar] (base i : Nat) [E : Eh] : Lo := loAt (loOf dr A.a) A.a base i E.e
def txtLo : Lo := ⟨true, False, 0, 0⟩
def BrT (b : Bool) (x y : Bool → Prop) : Prop := Br b (x true) (y true)
@[simp] theorem BrT_true (x y : Bool → Prop) : BrT true x y = x true := by simp [BrT, Br]
@[simp] theorem BrT_false (x y : Bool → Prop) : BrT false x y = y true := by simp [BrT, Br]
@[simp] theorem BrT_not (b : Bool) (x y : Bool → Prop) : BrT (!b) x y = BrT b y x := by cases b <;> simp
theorem BrT.mk {b : Bool} {x y : Bool → Prop} (h : b = true → x true) (k : b = false → y true) : BrT b x y := ⟨h, k⟩
theorem BrT.dec {p : Prop} [Decidable p] {x y : Bool → Prop} (h : p → x true) (k : ¬ p → y true) : BrT (decide p) x y := ⟨fun e => h (of_decide_eq_true e), fun e => k (of_decide_eq_false e)⟩
theorem BrT.yes {p : Prop} [Decidable p] {x y : Bool → Prop} (hp : p) (h : x true) : BrT (decide p) x y := .dec (fun _ => h) (fun n => absurd hp n)
theorem BrT.no {p : Prop} [Decidable p] {x y : Bool → Prop} (hp : ¬ p) (h : y true) : BrT (decide p) x y := .dec (fun n => absurd n hp) (fun _ => h)
def CallT (lo : Lo) (P : Program) (g : FuncId) (ss : List SV) (S : St) (K : Bool → SV → St → Prop) : Prop := Callv lo P g ss S (K true)
theorem CallT.p {lo : Lo} {g : FuncId} {ss : List SV} {K : Bool → SV → St → Prop} {ds : List D} {r : D} {gl : Nat → Option D} (h : PCall P gl g ds r) (hg : S.gl = gl) (hd : toDs ss = some ds) (k : K true (.d r) S) : CallT lo P g ss S K := .inl ⟨ds, r, hd, by rw [hg]; exact h, k⟩
theorem CallT.l {lo : Lo} {g : FuncId} {ss : List SV} {K : Bool → SV → St → Prop} {r : SV} {S' : St} (h : LCall P g ss S r S') (hl : lo.loud = true) (k : K true r S') : CallT lo P g ss S K := .inr (.inl ⟨hl, r, S', h, k⟩)
theorem CallT.own {A : Ar} {base i : Nat} {Eh : Eh} {g : FuncId} {ss : List SV} {K : Bool → SV → St → Prop} {r : SV} {fB : (Nat → Option (List SV)) → (Nat → Option (List SV))} {m : Nat} (l : Old) (hf : freeAt A.a i = true) (hl : oldOf A.a i = l) (ho : OldT l base Eh.e) (h : OwnK P g ss S base (base + A.a.size) r fB m) (k : K true r { S with B := fB S.B, nx := m }) : CallT (@LoudT true A base i Eh) P g ss S K := by
  refine .inr (.inr ⟨⟨?_, ?_, ?_⟩, r, fB, m, h, k⟩)
  · show drawLo A.a A.a.size = false
    unfold drawLo
    rw [if_neg (Nat.lt_irrefl _), if_pos rfl]
  · show drawLo A.a (A.a.size + 1 + i) = true
    unfold drawLo
    rw [if_neg (by omega), if_neg (by omega), show A.a.size + 1 + i - (A.a.size + 1) = i by omega]
    exact hf
  · show OldT (oldOf A.a i) base Eh.e
    rw [hl]; exact ho
theorem CallT.p0 {lo : Lo} {g : FuncId} {ss : List SV} {K : Bool → SV → St → Prop} {ds : List D} {r : D} {gl : Nat → Option D} (h : PCall P gl g ds r) (hg : S.gl = gl) (hd : toDs ss = some ds) (k : K true (.d r) S) : CallT lo P g ss S K := .p h hg hd k
def InvT (P : Program) (t : TypeId) (y : D) (name : String) (ss : List SV) (S : St) (K : Bool → SV → Prop) : Prop := Invk P t y name ss S (K true)
theorem InvT.p {t : TypeId} {y : D} {name : String} {ss : List SV} {K : Bool → SV → Prop} {g : FuncId} {ds : List D} {r : D} {gl : Nat → Option D} (h : PCall P gl g (y :: ds) r) (hg : S.gl = gl) (hm : methOf P t name = some g) (hd : toDs ss = some ds) (k : K true (.d r)) : InvT P t y name ss S K := ⟨g, ds, r, hm, hd, by rw [hg]; exact h, k⟩
def FnT (r : Option SV) (K : Bool → FuncId → List SV → List SV → Prop) : Prop := FnK r (K true)
@[simp] theorem FnT_dfn (g : FuncId) (xs ys : List D) (K : Bool → FuncId → List SV → List SV → Prop) : FnT (some (.d (.fn (.func g) xs ys))) K = K true g (xs.map .d) (ys.map .d) := (rfl)
def TxtT (dr : Bool) [A : Ar] : Bool := loOf dr A.a A.a.size
def TxtL (dr : Bool) [A : Ar] : Lo := ⟨loOf dr A.a A.a.size, False, 0, 0⟩
@[simp] theorem TxtL_text [A : Ar] : TxtL false = txtLo := (rfl)
@[simp] theorem TxtT_text [A : Ar] : TxtT false = true := (rfl)
def HidK (K : Bool → SV → Eff → Prop) : SV → Eff → Prop := K true
@[simp] theorem HidK_app (K : Bool → SV → Eff → Prop) (s : SV) (e : Eff) : HidK K s e = K true s e := (rfl)
def OpT (r : Option (SV × Eff)) (K : Bool → SV → Eff → Prop) : Prop := Op1 r (K true)
@[simp] theorem OpT_some (s : SV) (e : Eff) (K : Bool → SV → Eff → Prop) : OpT (some (s, e)) K = K true s e := (rfl)
@[simp] theorem OpT_only (c : Prop) [Decidable c] (s : SV) (e : Eff) (K : Bool → SV → Eff → Prop) : OpT (onlyIf c (s, e)) K = (c ∧ K true s e) := by
  unfold onlyIf
  by_cases h : c <;> simp [h, OpT, Op1]
def ArgT (r : Option (List SV)) (K : Bool → List SV → Prop) : Prop := ArgK r (K true)
@[simp] theorem ArgT_some (ds : List SV) (K : Bool → List SV → Prop) : ArgT (some ds) K = K true ds := (rfl)
def RecT (r : Option SV) (K : Bool → TypeId → D → Prop) : Prop := RecK r (K true)
@[simp] theorem RecT_some (t : TypeId) (y : D) (K : Bool → TypeId → D → Prop) : RecT (some (.d (.ifc t y))) K = K true t y := (rfl)
def WantT (r : Option Bool) (x y : Bool → Prop) : Prop := Want r (x true) (y true)
@[simp] theorem WantT_some (b : Bool) (x y : Bool → Prop) : WantT (some b) x y = BrT b x y := (rfl)
def CndT (r : Option SV) (x y : Bool → Prop) : Prop := Cnd r (x true) (y true)
@[simp] theorem CndT_some (b : Bool) (x y : Bool → Prop) : CndT (some (.d (.v (.bool b)))) x y = BrT b x y := (rfl)
def ThenT (N : Bool → Env → St → Prop) (Q : Exit → Env → St → Prop) : Exit → Env → St → Prop := Then (N true) Q
@[simp] theorem ThenT_normal (N : Bool → Env → St → Prop) (Q : Exit → Env → St → Prop) : ThenT N Q .normal E S = N true E S := (rfl)
@[simp] theorem ThenT_exit (N : Bool → Env → St → Prop) (Q : Exit → Env → St → Prop) (i : Nat) : ThenT N Q (.exit i) E S = Q (.exit i) E S := (rfl)
@[simp] theorem ThenT_ret (N : Bool → Env → St → Prop) (Q : Exit → Env → St → Prop) : ThenT N Q .ret E S = Q .ret E S := (rfl)
def RegT (Q : Exit → Env → St → Prop) : Env → St → Prop := fun E S => Q .normal E S
@[simp] theorem RegT_app (Q : Exit → Env → St → Prop) : RegT Q E S = Q .normal E S := (rfl)
@[simp] theorem InBlock_normal (id : Nat) (Q : Exit → Env → St → Prop) : InBlock id Q .normal E S = Q .normal E S := (rfl)
@[simp] theorem InBlock_ret (id : Nat) (Q : Exit → Env → St → Prop) : InBlock id Q .ret E S = Q .ret E S := (rfl)
@[simp] theorem InBlock_exit (id : Nat) (Q : Exit → Env → St → Prop) (i : Nat) : InBlock id Q (.exit i) E S = if i = id then Q .normal E S else Q (.exit i) E S := (rfl)

def StepT (_ : Bool) (dr : Bool) (P : Program) [A : Ar] (base i : Nat) [o : Oc] [l : Ls] (E : Env) (S : St) (Q : Env → St → Prop) : Option CallK → Prop
  | some (.fn g xs) => ArgT (argsS E xs) (fun t ss => CallT (@LoudT dr A base i ⟨E⟩) P g ss S (fun t r S' => @VLt t dr P A base (i + 1) l (E.put o.o.dst r) S' Q))
  | some (.inv x name xs) => RecT (evalO E x) (fun t ty y => ArgT (argsS E xs) (fun t ss => InvT P ty y name ss S (fun t r => @VLt t dr P A base (i + 1) l (E.put o.o.dst r) S Q)))
  | some (.dyn x xs) => FnT (evalO E x) (fun t g fs cs => ArgT (argsS E xs) (fun t ss => CallT (@TxtL dr A) P g (fs ++ ss ++ cs) S (fun t r S' => @VLt t dr P A base (i + 1) l (E.put o.o.dst r) S' Q)))
  | none => OpT (evalOp P E S (base + i) o.o) (fun t s e => @VLt t dr P A base (i + 1) l (E.put o.o.dst s) (S.app (base + i) e) Q) ∨ (@TxtT dr A = true ∧ evalX P E S (base + i) o.o (HidK (fun t s e => @VLt t dr P A base (i + 1) l (E.put o.o.dst s) (S.app (base + i) e) Q)))
def SeeT (t : Bool) (dr : Bool) (P : Program) [A : Ar] (base i : Nat) [o : Oc] [l : Ls] (E : Env) (S : St) (Q : Env → St → Prop) : Prop := @StepT t dr P A base i o l E S Q (callOf o.o.op)

@[simp] theorem CallT_text {A : Ar} {base i : Nat} {Eh : Eh} {g : FuncId} {ss : List SV} {K : Bool → SV → St → Prop} : CallT (@LoudT false A base i Eh) P g ss S K = CallT txtLo P g ss S K := by
  unfold CallT Callv
  refine propext ⟨fun h => ?_, fun h => ?_⟩
  · rcases h with h | h | ⟨⟨h, _⟩, _⟩
    · exact .inl h
    · exact .inr (.inl ⟨rfl, h.2⟩)
    · cases h
  · rcases h with h | h | ⟨h, _⟩
    · exact .inl h
    · exact .inr (.inl ⟨rfl, h.2⟩)
    · exact h.elim
@[simp] theorem VLt_nil {dr : Bool} {A : Ar} {base i : Nat} {Q : Env → St → Prop} : @VLt true dr P A base i ⟨[]⟩ E S Q = Q E S := (rfl)
@[simp] theorem VLt_cons {dr : Bool} {A : Ar} {base i : Nat} {d : Option Nat} {op : Op} {ty : TypeId} {p : String} {af : Array Edge} {l : List Oper} {Q : Env → St → Prop} : @VLt true dr P A base i ⟨⟨d, op, ty, p, af, none⟩ :: l⟩ E S Q =
    (dstOk d S.n = true ∧ @SeeT true dr P A base i ⟨⟨d, op, ty, p, af, none⟩⟩ ⟨l⟩ E S Q) := by
  show VL (loOf dr A.a) P A.a base i (⟨d, op, ty, p, af, none⟩ :: l) E S Q = _
  rw [VL]
  have : wantS A.a E ⟨d, op, ty, p, af, none⟩ = some true := rfl
  rw [this]
  simp only [Want, Br, true_imp_iff, reduceCtorEq, false_imp_iff, and_true]
  unfold SeeT StepT
  cases callOf op with
  | none => rfl
  | some k => cases k <;> rfl
def wantG (want : Bool) : Option SV → Option Bool
  | some (.d (.v (.bool b))) => some (b == want)
  | some (.d (.v (.tuple _))) => some false
  | _ => none
@[simp] theorem wantG_bool (want b : Bool) : wantG want (some (.d (.v (.bool b)))) = some (b == want) := (rfl)
@[simp] theorem wantG_undef (want : Bool) : wantG want (some (.d (.v undef))) = some false := (rfl)
def GrdT [A : Ar] (j : Nat) : Option Nat := (A.a[j]?).bind (·.dst)
@[simp] theorem GrdT_mk (l : List Oper) (j : Nat) : @GrdT ⟨⟨l⟩⟩ j = (l[j]?).bind (·.dst) := by
  show ((⟨l⟩ : Array Oper)[j]?).bind (·.dst) = _
  rw [List.getElem?_toArray]
def wantD (E : Env) (want : Bool) : Option Nat → Option Bool
  | some d => wantG want (evalO E (.tmp d))
  | none => none
@[simp] theorem wantD_some (E : Env) (want : Bool) (d : Nat) : wantD E want (some d) = wantG want (evalO E (.tmp d)) := (rfl)
@[simp] theorem VLt_consG {dr : Bool} {A : Ar} {base i : Nat} {d : Option Nat} {op : Op} {ty : TypeId} {p : String} {af : Array Edge} {l : List Oper} {Q : Env → St → Prop} {j : Nat} {want : Bool} : @VLt true dr P A base i ⟨⟨d, op, ty, p, af, some (j, want)⟩ :: l⟩ E S Q =
    (dstOk d S.n = true ∧ WantT (wantD E want (@GrdT A j)) (fun t => @SeeT t dr P A base i ⟨⟨d, op, ty, p, af, some (j, want)⟩⟩ ⟨l⟩ E S Q) (fun t => @VLt t dr P A base (i + 1) ⟨l⟩ (E.put d (.d (.v undef))) S Q)) := by
  show VL (loOf dr A.a) P A.a base i (⟨d, op, ty, p, af, some (j, want)⟩ :: l) E S Q = _
  rw [VL]
  have : wantS A.a E ⟨d, op, ty, p, af, some (j, want)⟩ = wantD E want (@GrdT A j) := by
    unfold wantS wantD wantG GrdT
    rfl
  rw [this]
  unfold WantT SeeT StepT
  cases callOf op with
  | none => rfl
  | some k => cases k <;> rfl
@[simp] theorem SeeT_fn {dr : Bool} {A : Ar} {base i : Nat} {d : Option Nat} {ty : TypeId} {p : String} {af : Array Edge} {gd : Option (Nat × Bool)} {l : List Oper} {Q : Env → St → Prop} {g : FuncId} {xs : Array Operand} {ts : Array TypeId} : @SeeT true dr P A base i ⟨⟨d, .call { callee := .value (.func g), args := xs, argTypes := ts }, ty, p, af, gd⟩⟩ ⟨l⟩ E S Q =
    ArgT (argsS E xs.toList) (fun t ss => CallT (@LoudT dr A base i ⟨E⟩) P g ss S (fun t r S' => @VLt t dr P A base (i + 1) ⟨l⟩ (E.put d r) S' Q)) := rfl
@[simp] theorem SeeT_inv {dr : Bool} {A : Ar} {base i : Nat} {d : Option Nat} {ty : TypeId} {p : String} {af : Array Edge} {gd : Option (Nat × Bool)} {l : List Oper} {Q : Env → St → Prop} {x : Operand} {name : String} {xs : Array Operand} {ts : Array TypeId} : @SeeT true dr P A base i ⟨⟨d, .call { callee := .invoke x name, args := xs, argTypes := ts }, ty, p, af, gd⟩⟩ ⟨l⟩ E S Q =
    RecT (evalO E x) (fun t ty y => ArgT (argsS E xs.toList) (fun t ss => InvT P ty y name ss S (fun t r => @VLt t dr P A base (i + 1) ⟨l⟩ (E.put d r) S Q))) := rfl
@[simp] theorem SeeT_dyn {dr : Bool} {A : Ar} {base i : Nat} {d : Option Nat} {ty : TypeId} {p : String} {af : Array Edge} {gd : Option (Nat × Bool)} {l : List Oper} {Q : Env → St → Prop} {x : Nat} {xs : Array Operand} {ts : Array TypeId} : @SeeT true dr P A base i ⟨⟨d, .call { callee := .value (.tmp x), args := xs, argTypes := ts }, ty, p, af, gd⟩⟩ ⟨l⟩ E S Q =
    FnT (evalO E (.tmp x)) (fun t g fs cs => ArgT (argsS E xs.toList) (fun t ss => CallT (@TxtL dr A) P g (fs ++ ss ++ cs) S (fun t r S' => @VLt t dr P A base (i + 1) ⟨l⟩ (E.put d r) S' Q))) := rfl
def isOp : Op → Bool
  | .call { callee := .builtin _, .. } => true
  | .call _ => false
  | _ => true
theorem isOp_callOf {op : Op} (h : isOp op = true) : callOf op = none := by
  unfold callOf
  split
  · cases h
  · cases h
  · cases h
  · rfl
def isTxt : Op → Bool
  | .makeMap .. | .buildSlice .. | .lookup .. | .mapUpdate .. | .mapEntry .. | .entryStore .. | .range .. | .next .. | .entry .. => true
  | .call { callee := .builtin .len, .. } => true
  | .call { callee := .builtin .copy, .. } => true
  | _ => false
theorem evalX_no {id : Nat} {o : Oper} {K : SV → Eff → Prop} (h : isTxt o.op = false) : evalX P E S id o K = False := by
  unfold evalX
  split
  all_goals first
    | rfl
    | (rename_i ho; rw [ho] at h; cases h)
    | skip
  rename_i c ho
  obtain ⟨callee, args, tys⟩ := c
  rw [ho] at h
  simp only
  split
  · simp [isTxt] at h
  · simp [isTxt] at h
  · rfl
theorem SeeT_x_ {dr : Bool} {A : Ar} {base i : Nat} {o : Oper} {l : List Oper} {Q : Env → St → Prop} (h : isOp o.op = true) : @SeeT true dr P A base i ⟨o⟩ ⟨l⟩ E S Q =
    (OpT (evalOp P E S (base + i) o) (fun t s e => @VLt t dr P A base (i + 1) ⟨l⟩ (E.put o.dst s) (S.app (base + i) e) Q) ∨ (@TxtT dr A = true ∧ evalX P E S (base + i) o (HidK (fun t s e => @VLt t dr P A base (i + 1) ⟨l⟩ (E.put o.dst s) (S.app (base + i) e) Q)))) := by
  unfold SeeT
  rw [show callOf (Oc.o (self := ⟨o⟩)).op = none from isOp_callOf h]
  rfl
theorem SeeT_op_ {dr : Bool} {A : Ar} {base i : Nat} {o : Oper} {l : List Oper} {Q : Env → St → Prop} (h : (isOp o.op && !isTxt o.op) = true) : @SeeT true dr P A base i ⟨o⟩ ⟨l⟩ E S Q =
    OpT (evalOp P E S (base + i) o) (fun t s e => @VLt t dr P A base (i + 1) ⟨l⟩ (E.put o.dst s) (S.app (base + i) e) Q) := by
  simp only [Bool.and_eq_true, Bool.not_eq_true'] at h
  rw [SeeT_x_ h.1, evalX_no h.2]
  simp
@[simp] theorem VCt_skip {Q : Exit → Env → St → Prop} : @VCt true P ⟨.skip⟩ E S Q = Q .normal E S := (rfl)
@[simp] theorem VCt_exit {id : Nat} {Q : Exit → Env → St → Prop} : @VCt true P ⟨.exit id⟩ E S Q = Q (.exit id) E S := (rfl)
@[simp] theorem VCt_ret {Q : Exit → Env → St → Prop} : @VCt true P ⟨.ret⟩ E S Q = Q .ret E S := (rfl)
@[simp] theorem VCt_seq {x y : Code} {Q : Exit → Env → St → Prop} : @VCt true P ⟨.seq x y⟩ E S Q = @VCt true P ⟨x⟩ E S (ThenT (fun t E' S' => @VCt t P ⟨y⟩ E' S' Q) Q) := (rfl)
@[simp] theorem VCt_block {id : Nat} {c : Code} {Q : Exit → Env → St → Prop} : @VCt true P ⟨.block id c⟩ E S Q = @VCt true P ⟨c⟩ E S (InBlock id Q) := (rfl)
@[simp] theorem VCt_cond {c : Operand} {x y : Code} {Q : Exit → Env → St → Prop} : @VCt true P ⟨.cond c x y⟩ E S Q = CndT (evalO E c) (fun t => @VCt t P ⟨x⟩ E S Q) (fun t => @VCt t P ⟨y⟩ E S Q) := (rfl)
@[simp] theorem VCt_region {id : Nat} {l : List Oper} {Q : Exit → Env → St → Prop} : @VCt true P ⟨.region id ⟨l⟩ false⟩ E S Q = @VLt true false P ⟨⟨l⟩⟩ S.nx 0 ⟨l⟩ E (S.adv l.length) (RegT Q) := (rfl)
@[simp] theorem VCt_draw {id : Nat} {l : List Oper} {Q : Exit → Env → St → Prop} : @VCt true P ⟨.region id ⟨l⟩ true⟩ E S Q = (@DrawT P ⟨⟨l⟩⟩ E S.nx ∧ @VLt true true P ⟨⟨l⟩⟩ S.nx 0 ⟨l⟩ E (S.adv l.length) (RegT Q)) := (rfl)
@[simp] theorem VCt_loop {c : Code} {Q : Exit → Env → St → Prop} : @VCt true P ⟨.loop c⟩ E S Q = @LoopT P ⟨c⟩ E S Q := (rfl)

theorem CS.of {c : Code} {Q : Exit → Env → St → Prop} (h : @VCt true P ⟨c⟩ E S Q) : CS P c E S Q := VC.sound h

theorem LoopT.round {c : Code} {Q : Exit → Env → St → Prop} (I : Env → St → Prop) (μ : Env → St → Nat) (h0 : I E S)
    (round : ∀ E1 S1, Keeps S S1 → I E1 S1 → @VCt true P ⟨c⟩ E1 S1 (ThenT (fun _ E' S' => I E' S' ∧ μ E' S' < μ E1 S1) Q)) : @LoopT P ⟨c⟩ E S Q :=
  CS.loop I μ h0 (fun E1 S1 hk hI => CS.of (round E1 S1 hk hI))

def RoundsV (P : Program) (c : Code) : Nat → Env → St → (Exit → Env → St → Prop) → Prop
  | 0, _, _, _ => False
  | n + 1, E, S, Q => VC P c E S (Then (fun E' S' => RoundsV P c n E' S' Q) Q)
theorem CS.rounds {c : Code} {Q : Exit → Env → St → Prop} : ∀ {n : Nat} {E : Env} {S : St}, RoundsV P c n E S Q → CS P (.loop c) E S Q := by
  intro n E S h m0 w0 G a w H hH hr QQ hQ
  refine wp_loop_rounds n ?_
  induction n generalizing E S G a w with
  | zero => exact h.elim
  | succ n ih =>
    rw [rounds_succ]
    refine VC.sound h m0 w0 G a w H hH hr _ (fun ex G' E' S' a' w' q hn hr' f => ?_)
    cases ex with
    | normal => exact ih q G' a' w' (fun b hb => Nat.lt_of_lt_of_le (hH b hb) hn.nx) hr' (fun ex G'' E'' S'' a'' w'' q' hn' hr'' f' => hQ ex G'' E'' S'' a'' w'' q' (hn.trans hn') hr'' (f.trans f'))
    | _ => exact hQ _ G' E' S' a' w' q hn hr' f
def RndT (P : Program) (n : Nat) [c : Cd] (E : Env) (S : St) (Q : Exit → Env → St → Prop) : Prop := RoundsV P c.c n E S Q
theorem RndT_succ {n : Nat} {c : Code} {Q : Exit → Env → St → Prop} : @RndT P (n + 1) ⟨c⟩ E S Q = @VCt true P ⟨c⟩ E S (ThenT (fun _ E' S' => @RndT P n ⟨c⟩ E' S' Q) Q) := (rfl)
theorem LoopT.rounds {c : Code} {Q : Exit → Env → St → Prop} (n : Nat) (h : @RndT P n ⟨c⟩ E S Q) : @LoopT P ⟨c⟩ E S Q := CS.rounds h

def Fin (P : Program) (rs : List ResultVar) (r : D) : Exit → Env → St → Prop := fun ex E S => (ex = .normal ∨ ex = .ret) ∧ ∃ s, resS P E S rs = some s ∧ frz S.B 16 s = some r
@[simp] theorem Fin_ret {rs : List ResultVar} {r : D} : Fin P rs r .ret E S = ((resS P E S rs).bind (frz S.B 16) = some r) := by
  simp only [Fin, reduceCtorEq, or_true, true_and, Option.bind_eq_some_iff]
theorem PCall.by_ {gl : Nat → Option D} {md : List Nat} {f : FuncId} {fn : Func} {c : Code} {args : List D} {r : D} (hf : P.funcs[f]? = some fn) (hb : fn.body = some c) (hname : (fn.name == "runtime.NumGoroutine") = false) {n : Nat} (hn : fn.ntmps = n) (hle : args.length ≤ n) (hfew : n ≤ globalsAt) {rs : List ResultVar} (hrs : fn.results.toList = rs)
    (h : @VCt true P ⟨c⟩ (startE gl (args.map .d)) (startS gl md n) (Fin P rs r)) : PCall P gl f args r := PCall.of (md := md) hf hb hname hn hle hfew (by rw [hrs]; exact VC.sound h)

def FinL (P : Program) (rs : List ResultVar) (r : SV) (S' : St) : Exit → Env → St → Prop := fun ex E S => (ex = .normal ∨ ex = .ret) ∧ resS P E S rs = some r ∧ Less S' S
theorem LCall.by_ {md : List Nat} {f : FuncId} {fn : Func} {c : Code} {ss : List SV} {r : SV} (hk : Keeps S S') (hf : P.funcs[f]? = some fn) (hb : fn.body = some c) (hname : (fn.name == "runtime.NumGoroutine") = false) {n : Nat} (hn : fn.ntmps = n) (hle : ss.length ≤ n) (hfew : n ≤ globalsAt) {rs : List ResultVar} (hrs : fn.results.toList = rs)
    (h : @VCt true P ⟨c⟩ (startE S.gl ss) { S with n := n, md := md } (FinL P rs r S')) : LCall P f ss S r S' := LCall.of (md := md) hf hb hname hn hle hfew hk (by rw [hrs]; exact VC.sound h)

mutual
def SV.lt (n : Nat) : SV → Bool
  | .d _ => true
  | .fl _ _ => true
  | .tp i _ _ _ => decide (i < n)
  | .op b _ => decide (b < n)
  | .os b _ _ => decide (b < n)
  | .ag cs => ltS n cs
  | .tu cs => ltS n cs
  | .fc _ x => SV.lt n x
  | .fn _ xs ys => ltS n xs && ltS n ys
  | .mv b => decide (b < n)
  | .iv b => decide (b < n)
  | .sk b _ _ => decide (b < n)
  | .mc _ vs => ltS n vs
  | .ic _ _ _ => true
def ltS (n : Nat) : List SV → Bool
  | [] => true
  | s :: r => SV.lt n s && ltS n r
end
theorem ltS_get {n : Nat} : ∀ {cs : List SV}, ltS n cs = true ↔ ∀ j (h : j < cs.length), SV.lt n cs[j] = true
  | [] => by simp [ltS]
  | s :: r => by
    simp only [ltS, Bool.and_eq_true, ltS_get (cs := r)]
    constructor
    · rintro ⟨h1, h2⟩ j hj
      cases j with
      | zero => exact h1
      | succ j => exact h2 j (by simpa using hj)
    · intro h
      exact ⟨h 0 (by simp), fun j hj => h (j + 1) (by simpa using hj)⟩
def Gh.cutAt (G : Gh) (n : Nat) : Gh := { G with box := fun b => if b < n then G.box b else none, tip := fun i => if i < n then G.tip i else none, obj := fun b => if b < n then G.obj b else none }
theorem VR.lt {G : Gh} {w : World} {n : Nat} (hb : ∀ b, n ≤ b → G.box b = none) (ht : ∀ b, n ≤ b → G.tip b = none) (ho : ∀ b, n ≤ b → G.obj b = none) {s : SV} {u : Value} (h : VR G w s u) : SV.lt n s = true := by
  induction h with
  | d h => rfl
  | fl h hc => rfl
  | tp h ht' hn he =>
    rename_i i q cs n' B o c B' v k cap
    rcases Nat.lt_or_ge i n with h1 | h1
    · simp [SV.lt, h1]
    · rw [ht i h1] at ht'; cases ht'
  | op h =>
    rename_i b off B
    rcases Nat.lt_or_ge b n with h1 | h1
    · simp [SV.lt, h1]
    · rw [hb b h1] at h; cases h
  | os h hn =>
    rename_i b off n' c B
    rcases Nat.lt_or_ge b n with h1 | h1
    · simp [SV.lt, h1]
    · rw [hb b h1] at h; cases h
  | ag hl hk hv ih => simp only [SV.lt]; exact ltS_get.2 fun j hj => ih j hj (by omega)
  | tu hl hv ih => simp only [SV.lt]; exact ltS_get.2 fun j hj => ih j hj (by omega)
  | fc h ih => exact ih
  | fn hl hm hv hu ih1 ih2 =>
    simp only [SV.lt, Bool.and_eq_true]
    exact ⟨ltS_get.2 fun j hj => ih1 j hj (by omega), ltS_get.2 fun j hj => ih2 j hj (by omega)⟩
  | mv h =>
    rename_i b B
    rcases Nat.lt_or_ge b n with h1 | h1
    · simp [SV.lt, h1]
    · rw [ho b h1] at h; cases h
  | iv h =>
    rename_i b B
    rcases Nat.lt_or_ge b n with h1 | h1
    · simp [SV.lt, h1]
    · rw [ho b h1] at h; cases h
  | sk h hn hb' hr =>
    rename_i b n' sz c B us T fr
    rcases Nat.lt_or_ge b n with h1 | h1
    · simp [SV.lt, h1]
    · rw [hb b h1] at h; cases h
theorem VR.cutAt {G : Gh} {w : World} {n : Nat} {s : SV} {u : Value} (h : VR G w s u) : SV.lt n s = true → VR (G.cutAt n) w s u := by
  induction h with
  | d h => exact fun _ => .d h
  | fl h hc => exact fun _ => .fl h hc
  | tp h ht hn he =>
    intro hl
    simp only [SV.lt, decide_eq_true_eq] at hl
    exact .tp h (by simp only [Gh.cutAt, if_pos hl]; exact ht) hn he
  | op h =>
    intro hl
    simp only [SV.lt, decide_eq_true_eq] at hl
    exact .op (by simp only [Gh.cutAt, if_pos hl]; exact h)
  | os h hn =>
    intro hl
    simp only [SV.lt, decide_eq_true_eq] at hl
    exact .os (by simp only [Gh.cutAt, if_pos hl]; exact h) hn
  | ag hl hk hv ih => exact fun h => .ag hl hk fun j hj hj' => ih j hj hj' (ltS_get.1 (by simpa only [SV.lt] using h) j hj)
  | tu hl hv ih => exact fun h => .tu hl fun j hj hj' => ih j hj hj' (ltS_get.1 (by simpa only [SV.lt] using h) j hj)
  | fc h ih => exact fun h => .fc (ih h)
  | fn hl hm hv hu ih1 ih2 =>
    intro h
    simp only [SV.lt, Bool.and_eq_true] at h
    exact .fn hl hm (fun j hj hj' => ih1 j hj hj' (ltS_get.1 h.1 j hj)) (fun j hj hj' => ih2 j hj hj' (ltS_get.1 h.2 j hj))
  | mv h =>
    intro hl
    simp only [SV.lt, decide_eq_true_eq] at hl
    exact .mv (by simp only [Gh.cutAt, if_pos hl]; exact h)
  | iv h =>
    intro hl
    simp only [SV.lt, decide_eq_true_eq] at hl
    exact .iv (by simp only [Gh.cutAt, if_pos hl]; exact h)
  | sk h hn hb hr =>
    intro hl
    simp only [SV.lt, decide_eq_true_eq] at hl
    exact .sk (by simp only [Gh.cutAt, if_pos hl]; exact h) hn hb hr
theorem ObjR.cutAt {G : Gh} {w : World} {n B : Nat} {cs : List SV} (h : ObjR G w cs B) (hl : ltS n cs = true) : ObjR (G.cutAt n) w cs B := by
  cases h with
  | mp es hb h1 h2 hborn hk hv =>
    simp only [ltS, SV.lt, Bool.and_true] at hl
    exact .mp es hb h1 h2 hborn hk fun j hj hj' => (hv j hj hj').cutAt (ltS_get.1 hl j hj)
  | it hb hm => exact .it hb hm
theorem ObjR.lt {G : Gh} {w : World} {n B : Nat} {cs : List SV} (hb : ∀ b, n ≤ b → G.box b = none) (ht : ∀ b, n ≤ b → G.tip b = none) (ho : ∀ b, n ≤ b → G.obj b = none) (h : ObjR G w cs B) : ltS n cs = true := by
  cases h with
  | mp es hb' h1 h2 hborn hk hv =>
    simp only [ltS, SV.lt, Bool.and_true]
    exact ltS_get.2 fun j hj => (hv j hj (by omega)).lt hb ht ho
  | it hb' hm => simp [ltS, SV.lt]
theorem ObjR.single {G : Gh} {w : World} {B : Nat} {cs l : List SV} (h : ObjR G w (cs ++ l) B) (hne : cs ≠ []) : l = [] := by
  have : (cs ++ l).length = 1 := by
    generalize cs ++ l = c at h
    cases h <;> rfl
  have h0 : 0 < cs.length := List.length_pos_iff.2 hne
  simp only [List.length_append] at this
  exact List.length_eq_zero_iff.1 (by omega)

structure Elder (S S' S1 : St) : Prop where
  n : S'.n = S.n
  md : S'.md = S.md
  gl : S'.gl = S.gl
  nx : S.nx ≤ S'.nx
  B : ∀ b cs, S'.B b = some cs → b < S'.nx ∧ (∃ l, S1.B b = some (cs ++ l)) ∧ (ltS S'.nx cs = true ∨ S.B b = some cs)
  T : ∀ i p, S'.T i = some p → i < S'.nx ∧ S1.T i = some p
  E : ∀ b, S'.B b = some [] → S1.B b = some []

def ResOf (o : Option SV) (r : SV) : Prop := o = some r ∨ ∃ s x, o = some s ∧ s.toD = some x ∧ r = .d x
theorem ResOf.get {o : Option SV} {r : SV} (h : ResOf o r) : ∃ s, o = some s ∧ ∀ (G : Gh) (w : World) (u : Value), VR G w s u → VR G w r u := by
  rcases h with h | ⟨s, x, h, hx, rfl⟩
  · exact ⟨r, h, fun _ _ _ k => k⟩
  · exact ⟨s, h, fun _ _ _ k => .d (k.toD hx)⟩
theorem LCall.elder {f : FuncId} {fn : Func} {c : Code} {ss : List SV} {r : SV} {md : List Nat} (hf : P.funcs[f]? = some fn) (hb : fn.body = some c) (hname : (fn.name == "runtime.NumGoroutine") = false) {n : Nat} (hn : fn.ntmps = n) (hle : ss.length ≤ n) (hfew : n ≤ globalsAt)
    (hk : Keeps S S') (hr0 : SV.lt S'.nx r = true)
    (h : CS P c (startE S.gl ss) { S with n := n, md := md } (fun ex E1 S1 => (ex = .normal ∨ ex = .ret) ∧ ResOf (resS P E1 S1 fn.results.toList) r ∧ Elder S S' S1)) : LCall P f ss S r S' := by
  refine ⟨⟨fn, hf, hname, by rw [hb]; rfl⟩, hk, fun m0 w0 G E F a w vals hr hF hl hv => calls_of_wp hf hb ?_⟩
  have hsz : (vals.toArray ++ Array.replicate (fn.ntmps - vals.toArray.size) undef).size = n := by simp; omega
  have hstart := start_slots (gl := S.gl) (G := G) (w := w) (ss := ss) (vals := vals) (n := n) (ntmps := n) hl hle hv hr.glob (Array.replicate (fn.ntmps - vals.toArray.size) undef)
  refine h m0 w0 G { tmps := vals.toArray ++ Array.replicate (fn.ntmps - vals.toArray.size) undef, defers := [] } w (fun b => F b ∧ b < S.nx) (fun _ hb => hb.2)
    ⟨hstart, hsz, hfew, hr.box, hr.inj, hr.tip, hr.tinj, hr.tlt, hr.tbox, fun b hb => hr.fresh b (hb.elim (hF b) (fun h => h.1)), hr.new, hr.low, hr.below, rfl, hr.glob, hr.more.keep (Fut.refl _ _) (.refl _) (fun _ _ _ h _ => h) rfl (fun _ _ _ => rfl) rfl (fun b hb => hb.elim (hF b) (fun h => h.1)) rfl⟩ _ ?_
  rintro ex G' E' S1 a' w' ⟨hex, hs, he⟩ hn' hr' f
  obtain ⟨s0, hs, hs0⟩ := hs.get
  obtain ⟨u, hu, hv0⟩ := resS_ok hr' hs
  have hv' := hs0 _ _ _ hv0
  have hnx : S.nx ≤ S1.nx := hn'.nx
  have hle' : S.nx ≤ S'.nx := hk.nx
  have hbox : ∀ b, S'.nx ≤ b → G.box b = none := fun b hb => (hr.fresh b (hF b (Nat.le_trans hle' hb))).1
  have htip : ∀ b, S'.nx ≤ b → G.tip b = none := fun b hb => (hr.fresh b (hF b (Nat.le_trans hle' hb))).2
  have hobj : ∀ b, S'.nx ≤ b → G.obj b = none := fun b hb => hr.more.ofresh b (hF b (Nat.le_trans hle' hb))
  have fc : Fut G w (G'.cutAt S'.nx) w' := by
    refine ⟨fun b B hb => ?_, fun i B v k cap hi => ?_, f.mark, f.cell, fun b B hb => ?_, f.row, f.map⟩
    · have hlt : b < S'.nx := by
        rcases Nat.lt_or_ge b S'.nx with h1 | h1
        · exact h1
        · rw [hbox b h1] at hb; cases hb
      simp only [Gh.cutAt, if_pos hlt]; exact f.box b B hb
    · have hlt : i < S'.nx := by
        rcases Nat.lt_or_ge i S'.nx with h1 | h1
        · exact h1
        · rw [htip i h1] at hi; cases hi
      simp only [Gh.cutAt, if_pos hlt]; exact f.tip i B v k cap hi
    · have hlt : b < S'.nx := by
        rcases Nat.lt_or_ge b S'.nx with h1 | h1
        · exact h1
        · rw [hobj b h1] at hb; cases hb
      simp only [Gh.cutAt, if_pos hlt]; exact f.obj b B hb
  have cutT : ∀ {i p}, (G'.cutAt S'.nx).tip i = some p → G'.tip i = some p := fun {i p} h => by
    simp only [Gh.cutAt] at h; split at h
    · exact h
    · cases h
  have cutB : ∀ {b p}, (G'.cutAt S'.nx).box b = some p → G'.box b = some p := fun {b p} h => by
    simp only [Gh.cutAt] at h; split at h
    · exact h
    · cases h
  have cutO : ∀ {b p}, (G'.cutAt S'.nx).obj b = some p → G'.obj b = some p := fun {b p} h => by
    simp only [Gh.cutAt] at h; split at h
    · exact h
    · cases h
  have ne : ∀ b, S'.B b ≠ none → S1.B b ≠ none := fun b hb e => by
    obtain ⟨cs, hcs⟩ := Option.ne_none_iff_exists'.1 hb
    obtain ⟨l, hl⟩ := (he.B b cs hcs).2.1
    rw [hl] at e; cases e
  have fin : a'.defers = [] ∧ ∃ v, (results fn a'.tmps).run P w' = .ok v w' ∧ (∃ u G'', Ending.returned v = Ending.returned u ∧ VR G'' w' r u ∧ Rel m0 w0 G'' E S' (fun b => F b ∧ ¬ (S.nx ≤ b ∧ b < S'.nx)) a w' ∧ Fut G w G'' w') := by
    refine ⟨hr'.defers, u, hu, u, G'.cutAt S'.nx, rfl, hv'.cutAt hr0, ⟨fun j s hj => (hr.env j s hj).fut fc, by rw [hk.n]; exact hr.size, by rw [hk.n]; exact hr.few, fun b cs hb ho => ?_, fun b b' B hb hb' g g' => hr'.inj b b' B (ne b hb) (ne b' hb') (cutB g) (cutB g'),
      fun i k sz hi => ?_, fun i i' B v k c v' k' c' g g' => hr'.tinj i i' B v k c v' k' c' (cutT g) (cutT g'), fun i B v k c g => hr'.tlt i B v k c (cutT g), fun i b B v k c hi hb g => hr'.tbox i b B v k c (cutT hi) (ne b hb) (cutB g), fun b hb => ?_, hr'.new, hr'.low, hr'.below, hr.defers, by rw [hk.gl]; exact fun g x hg => hr'.glob g x (by rw [hn'.gl]; exact hg), ⟨fun b cs B hb ho => ?_, fun b b' B hb hb' g g' => hr'.more.oinj b b' B (ne b hb) (ne b' hb') (cutO g) (cutO g'), fun b hb => ?_, fun hg => hr'.more.clean (by rw [hn'.gl]; rw [hk.gl] at hg; exact hg)⟩⟩, fc⟩
    · obtain ⟨hlt, ⟨l, h1⟩, h2⟩ := he.B b cs hb
      have ho' : G'.obj b = none := by simpa only [Gh.cutAt, if_pos hlt] using ho
      obtain ⟨B, us, T, g1, g2, g3, g4, g5, gu0, g6⟩ := hr'.box b _ h1 ho'
      have g6 : ∀ j (h : j < cs.length) (h' : j < us.size), (cs[j]).cell = true ∧ VR G' w' cs[j] us[j] := fun j h h' => by
        have := g6 j (by simp; omega) h'
        rwa [List.getElem_append_left h] at this
      refine ⟨B, us, T, by simp only [Gh.cutAt, if_pos hlt]; exact g1, g2, by simp at g3; omega, g4, g5, gu0, fun j hj hj' => ⟨(g6 j hj hj').1, (g6 j hj hj').2.cutAt ?_⟩⟩
      rcases h2 with h2 | h2
      · exact ltS_get.1 h2 j hj
      · have ho0 : G.obj b = none := by
          cases hx : G.obj b with
          | none => rfl
          | some X => rw [f.obj b X hx] at ho'; cases ho'
        obtain ⟨B0, us0, T0, k1, k2, k3, k4, k5, ku0, k6⟩ := hr.box b cs h2 ho0
        exact (k6 j hj (by omega)).2.lt hbox htip hobj
    · obtain ⟨hlt, h1⟩ := he.T i _ hi
      obtain ⟨B, v, us, T, cap, fr, g1, g2⟩ := hr'.tip i k sz h1
      exact ⟨B, v, us, T, cap, fr, by simp only [Gh.cutAt, if_pos hlt]; exact g1, g2⟩
    · rcases Nat.lt_or_ge b S.nx with h1 | h1
      · have h2 : b < S'.nx := by omega
        simp only [Gh.cutAt, if_pos h2]; exact hr'.fresh b (.inr ⟨hb.1, h1⟩)
      · have : ¬ b < S'.nx := by have := hb.2; omega
        simp only [Gh.cutAt, if_neg this, and_self]
    · obtain ⟨hlt, ⟨l, h1⟩, h2⟩ := he.B b cs hb
      have ho' := cutO ho
      obtain ⟨m1, m2, m3, m4⟩ := hr'.more.obj b _ B h1 ho'
      have hcs : cs ≠ [] := fun e => by
        subst e
        have := he.E b hb
        obtain ⟨_, _, _, m5⟩ := hr'.more.obj b _ B this ho'
        cases m5
      have hl := m4.single hcs
      subst hl
      rw [List.append_nil] at m4
      refine ⟨by simp only [Gh.cutAt, if_pos hlt]; exact m1, m2, m3, m4.cutAt ?_⟩
      rcases h2 with h2 | h2
      · exact h2
      · cases hx : G.obj b with
        | none =>
          obtain ⟨B0, us0, T0, k1, k2, k3, k4, k5, ku0, k6⟩ := hr.box b cs h2 hx
          exfalso
          cases m4 with
          | mp es _ _ _ _ _ _ => have := (k6 0 (by simp) (by simp at k3; omega)).2; cases this
          | it _ _ => have := (k6 0 (by simp) (by simp at k3; omega)).2; cases this
        | some X =>
          obtain ⟨_, _, _, k4⟩ := hr.more.obj b cs X h2 hx
          exact k4.lt hbox htip hobj
    · rcases Nat.lt_or_ge b S.nx with h1 | h1
      · have h2 : b < S'.nx := by omega
        simp only [Gh.cutAt, if_pos h2]; exact hr'.more.ofresh b (.inr ⟨hb.1, h1⟩)
      · have : ¬ b < S'.nx := by have := hb.2; omega
        simp only [Gh.cutAt, if_neg this]
  rcases hex with rfl | rfl
  · exact fin
  · exact fin
def FinE (P : Program) (rs : List ResultVar) (r : SV) (S S' : St) : Exit → Env → St → Prop := fun ex E S1 => (ex = .normal ∨ ex = .ret) ∧ resS P E S1 rs = some r ∧ Elder S S' S1
@[simp] theorem FinE_ret {rs : List ResultVar} {r : SV} {S0 : St} : FinE P rs r S0 S' .ret E S = (resS P E S rs = some r ∧ Elder S0 S' S) := by
  simp only [FinE, reduceCtorEq, or_true, true_and]
@[simp] theorem FinE_normal {rs : List ResultVar} {r : SV} {S0 : St} : FinE P rs r S0 S' .normal E S = (resS P E S rs = some r ∧ Elder S0 S' S) := by
  simp only [FinE, or_false, reduceCtorEq, true_and]
theorem LCall.byE {md : List Nat} {f : FuncId} {fn : Func} {c : Code} {ss : List SV} {r : SV} (hk : Keeps S S') (hr0 : SV.lt S'.nx r = true) (hf : P.funcs[f]? = some fn) (hb : fn.body = some c) (hname : (fn.name == "runtime.NumGoroutine") = false) {n : Nat} (hn : fn.ntmps = n) (hle : ss.length ≤ n) (hfew : n ≤ globalsAt) {rs : List ResultVar} (hrs : fn.results.toList = rs)
    (h : @VCt true P ⟨c⟩ (startE S.gl ss) { S with n := n, md := md } (FinE P rs r S S')) : LCall P f ss S r S' := LCall.elder (md := md) hf hb hname hn hle hfew hk hr0 (by rw [hrs]; exact (VC.sound h).mono fun _ _ _ ⟨h1, h2, h3⟩ => ⟨h1, .inl h2, h3⟩)
def FinD (P : Program) (rs : List ResultVar) (r : D) (S S' : St) : Exit → Env → St → Prop := fun ex E S1 => (ex = .normal ∨ ex = .ret) ∧ (∃ s, resS P E S1 rs = some s ∧ s.toD = some r) ∧ Elder S S' S1
@[simp] theorem FinD_ret {rs : List ResultVar} {r : D} {S0 : St} : FinD P rs r S0 S' .ret E S = ((∃ s, resS P E S rs = some s ∧ s.toD = some r) ∧ Elder S0 S' S) := by
  simp only [FinD, reduceCtorEq, or_true, true_and]
theorem LCall.byD {md : List Nat} {f : FuncId} {fn : Func} {c : Code} {ss : List SV} {r : D} (hk : Keeps S S') (hf : P.funcs[f]? = some fn) (hb : fn.body = some c) (hname : (fn.name == "runtime.NumGoroutine") = false) {n : Nat} (hn : fn.ntmps = n) (hle : ss.length ≤ n) (hfew : n ≤ globalsAt) {rs : List ResultVar} (hrs : fn.results.toList = rs)
    (h : @VCt true P ⟨c⟩ (startE S.gl ss) { S with n := n, md := md } (FinD P rs r S S')) : LCall P f ss S (.d r) S' := LCall.elder (md := md) hf hb hname hn hle hfew hk rfl (by rw [hrs]; exact (VC.sound h).mono fun _ _ _ ⟨h1, ⟨s, h2, h4⟩, h3⟩ => ⟨h1, .inr ⟨s, r, h2, h4, rfl⟩, h3⟩)

@[simp] theorem upd_app {α : Type} (f : Nat → Option α) (k : Nat) (x : α) (i : Nat) : upd f k x i = if i = k then some x else f i := (rfl)
@[simp] theorem adv_n (k : Nat) : (S.adv k).n = S.n := (rfl)
@[simp] theorem adv_B (k : Nat) : (S.adv k).B = S.B := (rfl)
@[simp] theorem adv_T (k : Nat) : (S.adv k).T = S.T := (rfl)
@[simp] theorem adv_nx (k : Nat) : (S.adv k).nx = S.nx + k := (rfl)
@[simp] theorem adv_md (k : Nat) : (S.adv k).md = S.md := (rfl)
@[simp] theorem adv_gl (k : Nat) : (S.adv k).gl = S.gl := (rfl)
@[simp] theorem new_n (id : Nat) (cs : List SV) : (S.new id cs).n = S.n := (rfl)
@[simp] theorem new_B (id : Nat) (cs : List SV) : (S.new id cs).B = upd S.B id cs := (rfl)
@[simp] theorem new_T (id : Nat) (cs : List SV) : (S.new id cs).T = S.T := (rfl)
@[simp] theorem new_nx (id : Nat) (cs : List SV) : (S.new id cs).nx = S.nx := (rfl)
@[simp] theorem new_md (id : Nat) (cs : List SV) : (S.new id cs).md = S.md := (rfl)
@[simp] theorem new_gl (id : Nat) (cs : List SV) : (S.new id cs).gl = S.gl := (rfl)
@[simp] theorem set_n (id : Nat) (cs : List SV) : (S.set id cs).n = S.n := (rfl)
@[simp] theorem set_B (id : Nat) (cs : List SV) : (S.set id cs).B = upd S.B id cs := (rfl)
@[simp] theorem set_T (id : Nat) (cs : List SV) : (S.set id cs).T = S.T := (rfl)
@[simp] theorem set_nx (id : Nat) (cs : List SV) : (S.set id cs).nx = S.nx := (rfl)
@[simp] theorem set_md (id : Nat) (cs : List SV) : (S.set id cs).md = S.md := (rfl)
@[simp] theorem set_gl (id : Nat) (cs : List SV) : (S.set id cs).gl = S.gl := (rfl)
@[simp] theorem tipTo_n (i k sz : Nat) : (S.tipTo i k sz).n = S.n := (rfl)
@[simp] theorem tipTo_B (i k sz : Nat) : (S.tipTo i k sz).B = S.B := (rfl)
@[simp] theorem tipTo_T (i k sz : Nat) : (S.tipTo i k sz).T = upd S.T i (k, sz) := (rfl)
@[simp] theorem tipTo_nx (i k sz : Nat) : (S.tipTo i k sz).nx = S.nx := (rfl)
@[simp] theorem tipTo_md (i k sz : Nat) : (S.tipTo i k sz).md = S.md := (rfl)
@[simp] theorem tipTo_gl (i k sz : Nat) : (S.tipTo i k sz).gl = S.gl := (rfl)
@[simp] theorem app_no (id : Nat) : S.app id .no = S := (rfl)
@[simp] theorem app_new (id : Nat) (cs : List SV) : S.app id (.new cs) = S.new id cs := (rfl)
@[simp] theorem app_set (id b : Nat) (cs : List SV) : S.app id (.set b cs) = S.set b cs := (rfl)
@[simp] theorem app_tip (id i k sz : Nat) : S.app id (.tip i k sz) = S.tipTo i k sz := (rfl)
@[simp] theorem startS_n (gl : Nat → Option D) (md : List Nat) (n : Nat) : (startS gl md n).n = n := (rfl)
@[simp] theorem startS_B (gl : Nat → Option D) (md : List Nat) (n : Nat) : (startS gl md n).B = fun _ => none := (rfl)
@[simp] theorem startS_T (gl : Nat → Option D) (md : List Nat) (n : Nat) : (startS gl md n).T = fun _ => none := (rfl)
@[simp] theorem startS_nx (gl : Nat → Option D) (md : List Nat) (n : Nat) : (startS gl md n).nx = 0 := (rfl)
@[simp] theorem startS_md (gl : Nat → Option D) (md : List Nat) (n : Nat) : (startS gl md n).md = md := (rfl)
@[simp] theorem startS_gl (gl : Nat → Option D) (md : List Nat) (n : Nat) : (startS gl md n).gl = gl := (rfl)
@[simp] theorem put_some (E : Env) (k : Nat) (s : SV) : Env.put E (some k) s = upd E k s := (rfl)
@[simp] theorem put_none (E : Env) (s : SV) : Env.put E none s = E := (rfl)
@[simp] theorem startE_app (gl : Nat → Option D) (args : List SV) (k : Nat) : startE gl args k = if k < 1048576 then args[k]? else (gl (k - 1048576)).map .d := (rfl)
@[simp] theorem evalO_tmp (E : Env) (t : Nat) : evalO E (.tmp t) = if t < 1048576 then E t else none := (rfl)
@[simp] theorem evalO_const (E : Env) (c : Value) : evalO E (.const c) = ofConst c := (rfl)
@[simp] theorem evalO_func (E : Env) (f : FuncId) : evalO E (.func f) = some (.fn (.func f) [] []) := (rfl)
@[simp] theorem ofConst_bool (b : Bool) : ofConst (.bool b) = some (.d (.v (.bool b))) := (rfl)
@[simp] theorem ofConst_int (k : IntKind) (n : Int) : ofConst (.int k n) = some (.d (.v (.int k n))) := (rfl)
@[simp] theorem ofConst_string (s : ByteArray) : ofConst (.string s) = some (.d (.v (.string s))) := (rfl)
@[simp] theorem ofConst_nilS : ofConst (.slice none 0 0) = some (.fl [] 0) := (rfl)
@[simp] theorem ofConst_nilI : ofConst .nilIface = some (.d (.v .nilIface)) := (rfl)
@[simp] theorem ofConst_nilF : ofConst .nilFunc = some (.d (.v .nilFunc)) := (rfl)
@[simp] theorem ofConst_nilM : ofConst (.map none) = some (.d (.v (.map none))) := (rfl)
@[simp] theorem dstOk_some (k n : Nat) : dstOk (some k) n = decide (k < n) := (rfl)
@[simp] theorem dstOk_none (n : Nat) : dstOk none n = true := (rfl)

section
variable {id : Nat} {d : Option Nat} {ty : TypeId} {p : String} {af : Array Edge} {g : Option (Nat × Bool)} {dr : Bool} {AA : Ar} {bb ii : Nat} {ll : List Oper} {QQ : Env → St → Prop}
@[simp] theorem SeeT_move (x : Operand) : @SeeT true dr P AA bb ii ⟨⟨d, .move x, ty, p, af, g⟩⟩ ⟨ll⟩ E S QQ = OpT ((evalO E x).map fun s => (s, .no)) (fun t s e => @VLt t dr P AA bb (ii + 1) ⟨ll⟩ (E.put d s) (S.app (bb + ii) e) QQ) := SeeT_op_ rfl
@[simp] theorem SeeT_assign (x : Operand) : @SeeT true dr P AA bb ii ⟨⟨d, .assign x, ty, p, af, g⟩⟩ ⟨ll⟩ E S QQ = OpT ((evalO E x).map fun s => (s, .no)) (fun t s e => @VLt t dr P AA bb (ii + 1) ⟨ll⟩ (E.put d s) (S.app (bb + ii) e) QQ) := SeeT_op_ rfl
def pick3 : Option SV → Option SV → Option SV → Option (SV × Eff)
  | some (.d (.v (.bool b))), some s, some t => some (if b = true then s else t, .no)
  | _, _, _ => none
@[simp] theorem pick3_some (b : Bool) (s t : SV) : pick3 (some (.d (.v (.bool b)))) (some s) (some t) = some (if b = true then s else t, .no) := (rfl)
@[simp] theorem SeeT_pick (c x y : Operand) : @SeeT true dr P AA bb ii ⟨⟨d, .pick c x y, ty, p, af, g⟩⟩ ⟨ll⟩ E S QQ = OpT (pick3 (evalO E c) (evalO E x) (evalO E y)) (fun t s e => @VLt t dr P AA bb (ii + 1) ⟨ll⟩ (E.put d s) (S.app (bb + ii) e) QQ) := SeeT_op_ rfl
@[simp] theorem SeeT_alloc (T : TypeId) : @SeeT true dr P AA bb ii ⟨⟨d, .alloc T, ty, p, af, g⟩⟩ ⟨ll⟩ E S QQ = OpT ((zeroCellsOf P T).map fun cs => (.op (bb + ii) 0, .new cs)) (fun t s e => @VLt t dr P AA bb (ii + 1) ⟨ll⟩ (E.put d s) (S.app (bb + ii) e) QQ) := SeeT_op_ rfl
def boxE (id : Nat) : Option SV → Option (SV × Eff)
  | some s => if s.one = true then some (.op id 0, .new s.cells) else none
  | none => none
@[simp] theorem boxE_some (s : SV) : boxE id (some s) = if s.one = true then some (.op id 0, .new s.cells) else none := (rfl)
@[simp] theorem SeeT_box (T : TypeId) (x : Operand) : @SeeT true dr P AA bb ii ⟨⟨d, .box T x, ty, p, af, g⟩⟩ ⟨ll⟩ E S QQ = OpT (boxE (bb + ii) (evalO E x)) (fun t s e => @VLt t dr P AA bb (ii + 1) ⟨ll⟩ (E.put d s) (S.app (bb + ii) e) QQ) := SeeT_op_ rfl
def buildE (P : Program) (T : TypeId) : Option (List SV) → Option (List (Nat × List SV)) → Bool → Option (SV × Eff)
  | some zs, some l, true => (fillL (placeOf P T) zs l).map fun cs => (.ag cs, .no)
  | _, _, _ => none
@[simp] theorem buildE_some (T : TypeId) (zs : List SV) (l : List (Nat × List SV)) : buildE P T (some zs) (some l) true = (fillL (placeOf P T) zs l).map fun cs => (.ag cs, .no) := (rfl)
@[simp] theorem SeeT_build (T : TypeId) (ps : Array (Nat × Operand)) : @SeeT true dr P AA bb ii ⟨⟨d, .build T ps, ty, p, af, g⟩⟩ ⟨ll⟩ E S QQ = OpT (buildE P T (zeroCellsOf P T) (partsS E ps.toList) (sized P T)) (fun t s e => @VLt t dr P AA bb (ii + 1) ⟨ll⟩ (E.put d s) (S.app (bb + ii) e) QQ) := SeeT_op_ rfl
def buildSliceE (n : Nat) : Option (List D × Nat) → Option (List (Nat × List D)) → Option (SV × Eff)
  | some (zs, sz), some l => if n * sz ≤ 16777216 then (fillL (fun i => some (i * sz, sz)) ((List.range (n * sz)).map fun j => zs.getD (j % sz) default) l).map fun cs => (.fl cs n, .no) else none
  | _, _ => none
@[simp] theorem buildSliceE_some (n : Nat) (zs : List D) (sz : Nat) (l : List (Nat × List D)) : buildSliceE n (some (zs, sz)) (some l) = if n * sz ≤ 16777216 then (fillL (fun i => some (i * sz, sz)) ((List.range (n * sz)).map fun j => zs.getD (j % sz) default) l).map fun cs => (.fl cs n, .no) else none := (rfl)
def RowT (c : Bool) (id n : Nat) (dr : Bool) [A : Ar] (K : Bool → SV → Eff → Prop) (zs : Option (List D × Nat)) (l : Option (List (Nat × List D))) : Prop :=
  match c with | true => @TxtT dr A = true ∧ rowX id n (HidK K) zs l | false => OpT (buildSliceE n zs l) K
@[simp] theorem RowT_false (id n : Nat) (A : Ar) (K : Bool → SV → Eff → Prop) (zs : Option (List D × Nat)) (l : Option (List (Nat × List D))) : @RowT false id n dr A K zs l = OpT (buildSliceE n zs l) K := (rfl)
@[simp] theorem RowT_true (id n : Nat) (A : Ar) (K : Bool → SV → Eff → Prop) (zs : List D) (sz : Nat) (l : List (Nat × List D)) : @RowT true id n false A K (some (zs, sz)) (some l) = (n * sz ≤ 16777216 ∧ ∃ cs, fillL (fun i => some (i * sz, sz)) ((List.range (n * sz)).map fun j => zs.getD (j % sz) default) l = some cs ∧ n * sz ≤ cs.length ∧ K true (.sk id n sz) (.new (cs.map .d))) := by
  show (@TxtT false A = true ∧ _) = _
  rw [TxtT_text]
  simp only [true_and]
  rfl
@[simp] theorem SeeT_buildSlice (T n : Nat) (ps : Array (Nat × Operand)) : @SeeT true dr P AA bb ii ⟨⟨d, .buildSlice T n ps, ty, p, af, g⟩⟩ ⟨ll⟩ E S QQ = @RowT (d.any fun d => S.md.contains d) (bb + ii) n dr AA (fun t s e => @VLt t dr P AA bb (ii + 1) ⟨ll⟩ (E.put d s) (S.app (bb + ii) e) QQ) (zerosOf P T) (partsD E ps.toList) := by
  rw [SeeT_x_ rfl]
  cases h : (d.any fun d => S.md.contains d) with
  | false =>
    have e1 : ∀ K, evalX P E S (bb + ii) ⟨d, .buildSlice T n ps, ty, p, af, g⟩ K = False := fun K => by
      show ((d.any fun d => S.md.contains d) = true ∧ _) = _
      rw [h]; simp
    have e2 : evalOp P E S (bb + ii) ⟨d, .buildSlice T n ps, ty, p, af, g⟩ = buildSliceE n (zerosOf P T) (partsD E ps.toList) := by
      show (match zerosOf P T, partsD E ps.toList with | some (zs, sz), some l => if n * sz ≤ 16777216 then (fillL (fun i => some (i * sz, sz)) ((List.range (n * sz)).map fun j => zs.getD (j % sz) default) l).bind (rowE S.md d n) else none | _, _ => none) = _
      have e3 : rowE S.md d n = fun cs => some (.fl cs n, .no) := by
        funext cs
        unfold rowE
        rw [if_neg (by rw [h]; simp)]
      rw [e3]
      unfold buildSliceE
      rcases zerosOf P T with _ | ⟨zs, sz⟩ <;> rcases partsD E ps.toList with _ | l
      · rfl
      · rfl
      · rfl
      · simp only
        split
        · generalize fillL _ _ _ = r
          cases r <;> rfl
        · rfl
    rw [e1, e2, and_false, or_false, RowT_false]
  | true =>
    have e2 : evalOp P E S (bb + ii) ⟨d, .buildSlice T n ps, ty, p, af, g⟩ = none := by
      show (match zerosOf P T, partsD E ps.toList with | some (zs, sz), some l => if n * sz ≤ 16777216 then (fillL (fun i => some (i * sz, sz)) ((List.range (n * sz)).map fun j => zs.getD (j % sz) default) l).bind (rowE S.md d n) else none | _, _ => none) = _
      have e3 : rowE S.md d n = fun cs => none := by
        funext cs
        unfold rowE
        rw [if_pos h]
      rw [e3]
      rcases zerosOf P T with _ | ⟨zs, sz⟩ <;> rcases partsD E ps.toList with _ | l
      · rfl
      · rfl
      · rfl
      · simp only
        split
        · generalize fillL _ _ _ = r
          cases r <;> rfl
        · rfl
    rw [e2]
    show (False ∨ (@TxtT dr AA = true ∧ ((d.any fun d => S.md.contains d) = true ∧ rowX _ _ _ _ _))) = (@TxtT dr AA = true ∧ rowX _ _ _ _ _)
    rw [h]
    simp only [false_or, true_and]
def loadE (P : Program) (T : TypeId) (B : Nat → Option (List SV)) : Option SV → Option (SV × Eff)
  | some (.d (.pp cs off)) => (loadD P T cs off).map fun s => (.d s, .no)
  | some (.op b off) => match B b with
    | some cs => (loadS P T cs off).map fun s => (s, .no)
    | none => none
  | _ => none
@[simp] theorem loadE_pp (T : TypeId) (B : Nat → Option (List SV)) (cs : List D) (off : Nat) : loadE P T B (some (.d (.pp cs off))) = (loadD P T cs off).map fun s => (.d s, .no) := (rfl)
def loadB (P : Program) (T : TypeId) (off : Nat) : Option (List SV) → Option (SV × Eff)
  | some cs => (loadS P T cs off).map fun s => (s, .no)
  | none => none
@[simp] theorem loadB_some (T off : Nat) (cs : List SV) : loadB P T off (some cs) = (loadS P T cs off).map fun s => (s, .no) := (rfl)
@[simp] theorem loadE_op (T : TypeId) (B : Nat → Option (List SV)) (b off : Nat) : loadE P T B (some (.op b off)) = loadB P T off (B b) := (rfl)
@[simp] theorem SeeT_load (T : TypeId) (x : Operand) : @SeeT true dr P AA bb ii ⟨⟨d, .load T x, ty, p, af, g⟩⟩ ⟨ll⟩ E S QQ = OpT (loadE P T S.B (evalO E x)) (fun t s e => @VLt t dr P AA bb (ii + 1) ⟨ll⟩ (E.put d s) (S.app (bb + ii) e) QQ) := SeeT_op_ rfl
def storeE (B : Nat → Option (List SV)) : Option SV → Option SV → Option Nat → Option (SV × Eff)
  | some (.op b off), some s, some n => match B b with
    | some cs => onlyIf (s.one = true ∧ s.cells.length = n ∧ off + n ≤ cs.length) (.d (.v undef), .set b (cs.take off ++ s.cells ++ cs.drop (off + n)))
    | none => none
  | _, _, _ => none
def storeB (b off n : Nat) (s : SV) : Option (List SV) → Option (SV × Eff)
  | some cs => onlyIf (s.one = true ∧ s.cells.length = n ∧ off + n ≤ cs.length) (.d (.v undef), .set b (cs.take off ++ s.cells ++ cs.drop (off + n)))
  | none => none
@[simp] theorem storeB_some (b off n : Nat) (s : SV) (cs : List SV) : storeB b off n s (some cs) = onlyIf (s.one = true ∧ s.cells.length = n ∧ off + n ≤ cs.length) (.d (.v undef), .set b (cs.take off ++ s.cells ++ cs.drop (off + n))) := (rfl)
@[simp] theorem storeE_some (B : Nat → Option (List SV)) (b off n : Nat) (s : SV) : storeE B (some (.op b off)) (some s) (some n) = storeB b off n s (B b) := (rfl)
@[simp] theorem SeeT_store (T : TypeId) (x y : Operand) : @SeeT true dr P AA bb ii ⟨⟨d, .store T x y, ty, p, af, g⟩⟩ ⟨ll⟩ E S QQ = OpT (storeE S.B (evalO E x) (evalO E y) (szOf P T)) (fun t s e => @VLt t dr P AA bb (ii + 1) ⟨ll⟩ (E.put d s) (S.app (bb + ii) e) QQ) := SeeT_op_ rfl
def binE (P : Program) (op : BinOp) (T : TypeId) : Option SV → Option SV → Option (SV × Eff)
  | some (.d (.v u)), some (.d (.v v)) => (binS P op T u v).map fun r => (.d (.v r), .no)
  | _, _ => none
@[simp] theorem binE_some (op : BinOp) (T : TypeId) (u v : Value) : binE P op T (some (.d (.v u))) (some (.d (.v v))) = (binS P op T u v).map fun r => (.d (.v r), .no) := (rfl)
noncomputable def binE2 (P : Program) (gl : Nat → Option D) (op : BinOp) (T : TypeId) : Option SV → Option SV → Option (SV × Eff)
  | some (.d (.v u)), some (.d (.v v)) => (binS P op T u v).map fun r => (.d (.v r), .no)
  | some s, some t => eqlE P gl op T s t
  | _, _ => none
@[simp] theorem binE2_some (gl : Nat → Option D) (op : BinOp) (T : TypeId) (u v : Value) : binE2 P gl op T (some (.d (.v u))) (some (.d (.v v))) = (binS P op T u v).map fun r => (.d (.v r), .no) := (rfl)
@[simp] theorem SeeT_bin_tmp (op : BinOp) (T T2 : TypeId) (x : Operand) (t : Nat) : @SeeT true dr P AA bb ii ⟨⟨d, .binOp op T x (.tmp t) T2, ty, p, af, g⟩⟩ ⟨ll⟩ E S QQ = OpT (binE2 P S.gl op T (evalO E x) (evalO E (.tmp t))) (fun t s e => @VLt t dr P AA bb (ii + 1) ⟨ll⟩ (E.put d s) (S.app (bb + ii) e) QQ) := SeeT_op_ rfl
@[simp] theorem SeeT_bin_int (op : BinOp) (T T2 : TypeId) (x : Operand) (k : IntKind) (n : Int) : @SeeT true dr P AA bb ii ⟨⟨d, .binOp op T x (.const (.int k n)) T2, ty, p, af, g⟩⟩ ⟨ll⟩ E S QQ = OpT (binE P op T (evalO E x) (some (.d (.v (.int k n))))) (fun t s e => @VLt t dr P AA bb (ii + 1) ⟨ll⟩ (E.put d s) (S.app (bb + ii) e) QQ) := SeeT_op_ rfl
@[simp] theorem SeeT_bin_string (op : BinOp) (T T2 : TypeId) (x : Operand) (s : ByteArray) : @SeeT true dr P AA bb ii ⟨⟨d, .binOp op T x (.const (.string s)) T2, ty, p, af, g⟩⟩ ⟨ll⟩ E S QQ = OpT (binE P op T (evalO E x) (some (.d (.v (.string s))))) (fun t s e => @VLt t dr P AA bb (ii + 1) ⟨ll⟩ (E.put d s) (S.app (bb + ii) e) QQ) := SeeT_op_ rfl
def nilTestE (P : Program) (op : BinOp) (T : TypeId) (c : Value) : Option SV → Option (SV × Eff)
  | some s => (evalNil P op T s c).map fun s => (s, .no)
  | none => none
@[simp] theorem nilTestE_some (op : BinOp) (T : TypeId) (c : Value) (s : SV) : nilTestE P op T c (some s) = (evalNil P op T s c).map fun s => (s, .no) := (rfl)
@[simp] theorem SeeT_bin_nilI (op : BinOp) (T T2 : TypeId) (x : Operand) : @SeeT true dr P AA bb ii ⟨⟨d, .binOp op T x (.const .nilIface) T2, ty, p, af, g⟩⟩ ⟨ll⟩ E S QQ = OpT (nilTestE P op T .nilIface (evalO E x)) (fun t s e => @VLt t dr P AA bb (ii + 1) ⟨ll⟩ (E.put d s) (S.app (bb + ii) e) QQ) := SeeT_op_ rfl
def unE (op : UnOp) : Option SV → Option (SV × Eff)
  | some (.d (.v u)) => (unS op u).map fun r => (.d (.v r), .no)
  | _ => none
@[simp] theorem unE_some (op : UnOp) (u : Value) : unE op (some (.d (.v u))) = (unS op u).map fun r => (.d (.v r), .no) := (rfl)
@[simp] theorem SeeT_un (op : UnOp) (T : TypeId) (x : Operand) : @SeeT true dr P AA bb ii ⟨⟨d, .unOp op T x, ty, p, af, g⟩⟩ ⟨ll⟩ E S QQ = OpT (unE op (evalO E x)) (fun t s e => @VLt t dr P AA bb (ii + 1) ⟨ll⟩ (E.put d s) (S.app (bb + ii) e) QQ) := SeeT_op_ rfl
def convE (P : Program) (id : Nat) (T U : TypeId) : Option SV → Option (SV × Eff)
  | some s => evalConv P id T U s
  | none => none
@[simp] theorem convE_some (T U : TypeId) (s : SV) : convE P id T U (some s) = evalConv P id T U s := (rfl)
@[simp] theorem SeeT_convert (T U : TypeId) (x : Operand) : @SeeT true dr P AA bb ii ⟨⟨d, .convert T U x, ty, p, af, g⟩⟩ ⟨ll⟩ E S QQ = OpT (convE P (bb + ii) T U (evalO E x)) (fun t s e => @VLt t dr P AA bb (ii + 1) ⟨ll⟩ (E.put d s) (S.app (bb + ii) e) QQ) := SeeT_op_ rfl
def makeE (P : Program) (S : St) (id : Nat) (d : Option Nat) (T : TypeId) : Option SV → Option SV → Option (SV × Eff)
  | some s, some t => evalMake P S id d T s t
  | _, _ => none
@[simp] theorem makeE_some (T : TypeId) (s t : SV) : makeE P S id d T (some s) (some t) = evalMake P S id d T s t := (rfl)
@[simp] theorem SeeT_makeSlice (T : TypeId) (x y : Operand) : @SeeT true dr P AA bb ii ⟨⟨d, .makeSlice T x y, ty, p, af, g⟩⟩ ⟨ll⟩ E S QQ = OpT (makeE P S (bb + ii) d T (evalO E x) (evalO E y)) (fun t s e => @VLt t dr P AA bb (ii + 1) ⟨ll⟩ (E.put d s) (S.app (bb + ii) e) QQ) := SeeT_op_ rfl
def sliceE (P : Program) (E : Env) (S : St) (T : TypeId) (lo hi : Option Operand) : Option SV → Option (SV × Eff)
  | some s => (evalSlice P E S T s lo hi).map fun s => (s, .no)
  | none => none
@[simp] theorem sliceE_some (T : TypeId) (lo hi : Option Operand) (s : SV) : sliceE P E S T lo hi (some s) = (evalSlice P E S T s lo hi).map fun s => (s, .no) := (rfl)
@[simp] theorem SeeT_slice (T : TypeId) (x : Operand) (lo hi : Option Operand) : @SeeT true dr P AA bb ii ⟨⟨d, .slice T x lo hi none, ty, p, af, g⟩⟩ ⟨ll⟩ E S QQ = OpT (sliceE P E S T lo hi (evalO E x)) (fun t s e => @VLt t dr P AA bb (ii + 1) ⟨ll⟩ (E.put d s) (S.app (bb + ii) e) QQ) := SeeT_op_ rfl
def fieldE (P : Program) : Option SV → Option (TypeId × Nat) → Option (SV × Eff)
  | some (.ag cs), some (t, off) => (loadS P t cs off).map fun s => (s, .no)
  | some (.d (.agg cs)), some (t, off) => (loadD P t cs off).map fun s => (.d s, .no)
  | _, _ => none
@[simp] theorem fieldE_ag (cs : List SV) (t off : Nat) : fieldE P (some (.ag cs)) (some (t, off)) = (loadS P t cs off).map fun s => (s, .no) := (rfl)
@[simp] theorem fieldE_agg (cs : List D) (t off : Nat) : fieldE P (some (.d (.agg cs))) (some (t, off)) = (loadD P t cs off).map fun s => (.d s, .no) := (rfl)
@[simp] theorem SeeT_field (T : TypeId) (x : Operand) (i : Nat) : @SeeT true dr P AA bb ii ⟨⟨d, .field T x i, ty, p, af, g⟩⟩ ⟨ll⟩ E S QQ = OpT (fieldE P (evalO E x) (fieldTy P T i)) (fun t s e => @VLt t dr P AA bb (ii + 1) ⟨ll⟩ (E.put d s) (S.app (bb + ii) e) QQ) := SeeT_op_ rfl
def fieldAddrE : Option SV → Option Nat → Option (SV × Eff)
  | some (.d (.pp cs off)), some n => some (.d (.pp cs (off + n)), .no)
  | some (.op b off), some n => some (.op b (off + n), .no)
  | _, _ => none
@[simp] theorem fieldAddrE_pp (cs : List D) (off n : Nat) : fieldAddrE (some (.d (.pp cs off))) (some n) = some (.d (.pp cs (off + n)), .no) := (rfl)
@[simp] theorem fieldAddrE_op (b off n : Nat) : fieldAddrE (some (.op b off)) (some n) = some (.op b (off + n), .no) := (rfl)
@[simp] theorem SeeT_fieldAddr (T : TypeId) (x : Operand) (i : Nat) : @SeeT true dr P AA bb ii ⟨⟨d, .fieldAddr T x i, ty, p, af, g⟩⟩ ⟨ll⟩ E S QQ = OpT (fieldAddrE (evalO E x) (fieldOf P T i)) (fun t s e => @VLt t dr P AA bb (ii + 1) ⟨ll⟩ (E.put d s) (S.app (bb + ii) e) QQ) := SeeT_op_ rfl
def indexAddrE (P : Program) (T : TypeId) : Option SV → Option SV → Option (SV × Eff)
  | some s, some (.d (.v (.int _ i))) => (evalIndexAddr P T s i).map fun s => (s, .no)
  | _, _ => none
@[simp] theorem indexAddrE_some (T : TypeId) (s : SV) (k : IntKind) (i : Int) : indexAddrE P T (some s) (some (.d (.v (.int k i)))) = (evalIndexAddr P T s i).map fun s => (s, .no) := (rfl)
@[simp] theorem SeeT_indexAddr (T : TypeId) (x y : Operand) : @SeeT true dr P AA bb ii ⟨⟨d, .indexAddr T x y, ty, p, af, g⟩⟩ ⟨ll⟩ E S QQ = OpT (indexAddrE P T (evalO E x) (evalO E y)) (fun t s e => @VLt t dr P AA bb (ii + 1) ⟨ll⟩ (E.put d s) (S.app (bb + ii) e) QQ) := SeeT_op_ rfl
def byteI (s : ByteArray) (i : Nat) : Int := ((s.data.toList.getD i 0).toNat : Int)
def indexE : Option SV → Option SV → Bool → Option (SV × Eff)
  | some (.d (.v (.string s))), some (.d (.v (.int _ i))), true => onlyIf (0 ≤ i ∧ i < s.size) (.d (.v (.int .u8 (s.data.toList.getD i.toNat 0).toNat)), .no)
  | _, _, _ => none
@[simp] theorem indexE_some (s : ByteArray) (k : IntKind) (i : Int) : indexE (some (.d (.v (.string s)))) (some (.d (.v (.int k i)))) true = onlyIf (0 ≤ i ∧ i < s.size) (.d (.v (.int .u8 (byteI s i.toNat))), .no) := (rfl)
@[simp] theorem SeeT_index (T : TypeId) (x y : Operand) : @SeeT true dr P AA bb ii ⟨⟨d, .index T x y, ty, p, af, g⟩⟩ ⟨ll⟩ E S QQ = OpT (indexE (evalO E x) (evalO E y) (isString P T)) (fun t s e => @VLt t dr P AA bb (ii + 1) ⟨ll⟩ (E.put d s) (S.app (bb + ii) e) QQ) := SeeT_op_ rfl
def mkIfcE (T : TypeId) : Option SV → Option Bool → Option (SV × Eff)
  | some s, some false => some (mkIfc T s, .no)
  | _, _ => none
@[simp] theorem mkIfcE_some (T : TypeId) (s : SV) : mkIfcE T (some s) (some false) = some (mkIfc T s, .no) := (rfl)
@[simp] theorem SeeT_makeInterface (T : TypeId) (x : Operand) : @SeeT true dr P AA bb ii ⟨⟨d, .makeInterface T x, ty, p, af, g⟩⟩ ⟨ll⟩ E S QQ = OpT (mkIfcE T (evalO E x) (isIface P T)) (fun t s e => @VLt t dr P AA bb (ii + 1) ⟨ll⟩ (E.put d s) (S.app (bb + ii) e) QQ) := SeeT_op_ rfl
def assertE (P : Program) (A : TypeId) (ok : Bool) : Option SV → Option (SV × Eff)
  | some s => (evalAssert P A ok s).map fun s => (s, .no)
  | none => none
@[simp] theorem assertE_some (A : TypeId) (ok : Bool) (s : SV) : assertE P A ok (some s) = (evalAssert P A ok s).map fun s => (s, .no) := (rfl)
@[simp] theorem SeeT_typeAssert (x : Operand) (T A : TypeId) (ok : Bool) : @SeeT true dr P AA bb ii ⟨⟨d, .typeAssert x T A ok, ty, p, af, g⟩⟩ ⟨ll⟩ E S QQ = OpT (assertE P A ok (evalO E x)) (fun t s e => @VLt t dr P AA bb (ii + 1) ⟨ll⟩ (E.put d s) (S.app (bb + ii) e) QQ) := SeeT_op_ rfl
def extractE (i : Nat) : Option SV → Option (SV × Eff)
  | some t => (tupS t i).map fun s => (s, .no)
  | none => none
@[simp] theorem extractE_some (i : Nat) (t : SV) : extractE i (some t) = (tupS t i).map fun s => (s, .no) := (rfl)
@[simp] theorem SeeT_extract (x : Operand) (i : Nat) : @SeeT true dr P AA bb ii ⟨⟨d, .extract x i, ty, p, af, g⟩⟩ ⟨ll⟩ E S QQ = OpT (extractE i (evalO E x)) (fun t s e => @VLt t dr P AA bb (ii + 1) ⟨ll⟩ (E.put d s) (S.app (bb + ii) e) QQ) := SeeT_op_ rfl
def lenE (P : Program) (T : TypeId) : Option SV → Option (SV × Eff)
  | some s => (evalLen P s T).map fun s => (s, .no)
  | none => none
@[simp] theorem lenE_some (T : TypeId) (s : SV) : lenE P T (some s) = (evalLen P s T).map fun s => (s, .no) := (rfl)
def LenT (P : Program) (S : St) (dr : Bool) [A : Ar] (T : TypeId) (K : Bool → SV → Eff → Prop) (s : Option SV) : Prop := OpT (lenE P T s) K ∨ (@TxtT dr A = true ∧ lenX P S T (HidK K) s)
@[simp] theorem LenT_d (A : Ar) (T : TypeId) (K : Bool → SV → Eff → Prop) (x : D) : @LenT P S dr A T K (some (.d x)) = OpT (lenE P T (some (.d x))) K := by simp [LenT, lenX]
@[simp] theorem LenT_os (A : Ar) (T : TypeId) (K : Bool → SV → Eff → Prop) (b off n : Nat) : @LenT P S dr A T K (some (.os b off n)) = OpT (lenE P T (some (.os b off n))) K := by simp [LenT, lenX]
@[simp] theorem LenT_sk (A : Ar) (T : TypeId) (K : Bool → SV → Eff → Prop) (b n sz : Nat) : @LenT P S dr A T K (some (.sk b n sz)) = OpT (lenE P T (some (.sk b n sz))) K := by simp [LenT, lenX]
@[simp] theorem SeeT_len (x : Operand) (T : TypeId) : @SeeT true dr P AA bb ii ⟨⟨d, .call { callee := .builtin .len, args := #[x], argTypes := #[T] }, ty, p, af, g⟩⟩ ⟨ll⟩ E S QQ = @LenT P S dr AA T (fun t s e => @VLt t dr P AA bb (ii + 1) ⟨ll⟩ (E.put d s) (S.app (bb + ii) e) QQ) (evalO E x) := SeeT_x_ rfl
@[simp] theorem SeeT_makeFunc (fn : Fn) (xs ys : Array Operand) : @SeeT true dr P AA bb ii ⟨⟨d, .makeFunc fn xs ys, ty, p, af, g⟩⟩ ⟨ll⟩ E S QQ = ArgT (argsS E xs.toList) (fun t as => ArgT (argsS E ys.toList) (fun t bs => @VLt t dr P AA bb (ii + 1) ⟨ll⟩ (E.put d (.fn fn as bs)) (S.app (bb + ii) .no) QQ)) := by
  rw [SeeT_op_ rfl]
  show OpT (match argsS E xs.toList, argsS E ys.toList with | some xs, some ys => some (SV.fn fn xs ys, Eff.no) | _, _ => none) _ = _
  cases argsS E xs.toList with
  | none => simp [OpT, Op1, ArgT, ArgK]
  | some as => cases argsS E ys.toList <;> simp [OpT, Op1, ArgT, ArgK]

@[simp] theorem SeeT_makeMap (T : TypeId) : @SeeT true false P AA bb ii ⟨⟨d, .makeMap T none, ty, p, af, g⟩⟩ ⟨ll⟩ E S QQ = @VLt true false P AA bb (ii + 1) ⟨ll⟩ (E.put d (.mv (bb + ii))) (S.app (bb + ii) (.new [.mc [] []])) QQ := by
  rw [SeeT_x_ rfl, TxtT_text]
  show (False ∨ (true = true ∧ _)) = _
  simp only [false_or, true_and]
  rfl
@[simp] theorem SeeT_lookup (T : TypeId) (x y : Operand) (ok : Bool) : @SeeT true false P AA bb ii ⟨⟨d, .lookup T x y ok, ty, p, af, g⟩⟩ ⟨ll⟩ E S QQ = lookX P S ok T (HidK (fun t s e => @VLt t false P AA bb (ii + 1) ⟨ll⟩ (E.put d s) (S.app (bb + ii) e) QQ)) (evalO E x) (evalO E y) := by
  rw [SeeT_x_ rfl, TxtT_text]
  show (OpT (lookE P T ok (evalO E x) (evalO E y)) _ ∨ (true = true ∧ lookX _ _ _ _ _ _ _)) = _
  simp only [true_and]
  refine propext (or_iff_right_of_imp ?_)
  unfold lookE
  split
  · rename_i ks vs t h1 h2
    intro h
    rw [h1, h2]
    cases hl : lookS P T ks (vs.map .d) t ok with
    | none => rw [hl] at h; exact h.elim
    | some r => rw [hl] at h; exact ⟨r, hl, h⟩
  · exact fun h => h.elim
@[simp] theorem SeeT_mapUpdate (T : TypeId) (x y z : Operand) : @SeeT true false P AA bb ii ⟨⟨d, .mapUpdate T x y z, ty, p, af, g⟩⟩ ⟨ll⟩ E S QQ = updX P S T (HidK (fun t s e => @VLt t false P AA bb (ii + 1) ⟨ll⟩ (E.put d s) (S.app (bb + ii) e) QQ)) (evalO E x) (evalO E y) (evalO E z) := by
  rw [SeeT_x_ rfl, TxtT_text]
  show (False ∨ (true = true ∧ updX _ _ _ _ _ _ _)) = _
  simp only [false_or, true_and]
@[simp] theorem SeeT_range (T : TypeId) (x : Operand) : @SeeT true false P AA bb ii ⟨⟨d, .range T x, ty, p, af, g⟩⟩ ⟨ll⟩ E S QQ = rangeX P (bb + ii) T (HidK (fun t s e => @VLt t false P AA bb (ii + 1) ⟨ll⟩ (E.put d s) (S.app (bb + ii) e) QQ)) (evalO E x) := by
  rw [SeeT_x_ rfl, TxtT_text]
  show (False ∨ (true = true ∧ rangeX _ _ _ _ _)) = _
  simp only [false_or, true_and]
@[simp] theorem SeeT_next (x : Operand) : @SeeT true false P AA bb ii ⟨⟨d, .next x false, ty, p, af, g⟩⟩ ⟨ll⟩ E S QQ = nextX S (HidK (fun t s e => @VLt t false P AA bb (ii + 1) ⟨ll⟩ (E.put d s) (S.app (bb + ii) e) QQ)) (evalO E x) := by
  rw [SeeT_x_ rfl, TxtT_text]
  show (False ∨ (true = true ∧ nextX _ _ _)) = _
  simp only [false_or, true_and]
@[simp] theorem SeeT_entry (x : Operand) : @SeeT true false P AA bb ii ⟨⟨d, .entry x, ty, p, af, g⟩⟩ ⟨ll⟩ E S QQ = entryX S (HidK (fun t s e => @VLt t false P AA bb (ii + 1) ⟨ll⟩ (E.put d s) (S.app (bb + ii) e) QQ)) (evalO E x) := by
  rw [SeeT_x_ rfl, TxtT_text]
  show (False ∨ (true = true ∧ entryX _ _ _)) = _
  simp only [false_or, true_and]
@[simp] theorem lookX_mp (ok : Bool) (T : TypeId) (K : SV → Eff → Prop) (ks vs : List D) (s : ByteArray) : lookX P S ok T K (some (.d (.mp ks vs))) (some (.d (.v (.string s)))) = ∃ r, lookS P T ks (vs.map .d) s ok = some r ∧ K r .no := (rfl)
@[simp] theorem lookX_mv (ok : Bool) (T : TypeId) (K : SV → Eff → Prop) (b : Nat) (k : SV) : lookX P S ok T K (some (.mv b)) (some k) = lookV P S.gl ok T K (S.B b) k := (rfl)
@[simp] theorem lookV_str (gl : Nat → Option D) (ok : Bool) (T : TypeId) (K : SV → Eff → Prop) (ks : List D) (vs : List SV) (s : ByteArray) : lookV P gl ok T K (some [.mc ks vs]) (.d (.v (.string s))) = ∃ r, lookS P T ks vs s ok = some r ∧ K r .no := (rfl)
@[simp] theorem updX_mv (T : TypeId) (K : SV → Eff → Prop) (b : Nat) (k v : SV) : updX P S T K (some (.mv b)) (some k) (some v) = updV P S.gl T K b v (S.B b) k := (rfl)
@[simp] theorem updV_str (gl : Nat → Option D) (T : TypeId) (K : SV → Eff → Prop) (b : Nat) (v : SV) (ks : List D) (vs : List SV) (s : ByteArray) : updV P gl T K b v (some [.mc ks vs]) (.d (.v (.string s))) = ∃ e c, Sh.mapOf P T = some e ∧ updK ks vs s v = some c ∧ K (.d (.v undef)) (.set b [c]) := (rfl)
@[simp] theorem rangeX_mp (T : TypeId) (K : SV → Eff → Prop) (ks vs : List D) : rangeX P id T K (some (.d (.mp ks vs))) = (isMap P T = true ∧ K (.iv id) (.new [.ic ks vs []])) := (rfl)
@[simp] theorem nextX_iv (K : SV → Eff → Prop) (b : Nat) : nextX S K (some (.iv b)) = nextV K b (S.B b) := (rfl)
theorem nextV.mk {K : Bool → SV → Eff → Prop} {b : Nat} {ks vs : List D} {seen : List Nat} (h : ∀ j (hk : j < ks.length) (hv : j < vs.length), j ∉ seen → K true (.tu [.d (.v (.bool true)), .d ks[j], .d vs[j]]) (.set b [.ic ks vs (seen ++ [j])])) (k : (∀ j, j < ks.length → j ∈ seen) → K true (.tu [.d (.v (.bool false))]) .no) :
    nextV (HidK K) b (some [.ic ks vs seen]) := ⟨h, k⟩
@[simp] theorem entryX_iv (K : SV → Eff → Prop) (b : Nat) : entryX S K (some (.iv b)) = entryV K (S.B b) := (rfl)
def entry2 (K : SV → Eff → Prop) : Option D → Option D → Prop
  | some k, some v => K (.tu [.d k, .d v]) .no
  | _, _ => False
@[simp] theorem entry2_some (K : SV → Eff → Prop) (k v : D) : entry2 K (some k) (some v) = K (.tu [.d k, .d v]) .no := (rfl)
@[simp] theorem entryV_last (K : SV → Eff → Prop) (ks vs : List D) (seen : List Nat) (j : Nat) : entryV K (some [.ic ks vs (seen ++ [j])]) = entry2 K ks[j]? vs[j]? := by
  unfold entryV
  apply propext
  constructor
  · rintro ⟨j', h1, hk, hv, h⟩
    simp at h1
    subst h1
    rw [List.getElem?_eq_getElem hk, List.getElem?_eq_getElem hv]
    exact h
  · intro h
    unfold entry2 at h
    split at h
    · rename_i h1 h2
      obtain ⟨hk, rfl⟩ := List.getElem?_eq_some_iff.1 h1
      obtain ⟨hv, rfl⟩ := List.getElem?_eq_some_iff.1 h2
      exact ⟨j, by simp, hk, hv, h⟩
    · exact h.elim
def appendE (P : Program) (S : St) (id : Nat) (d : Option Nat) (T : TypeId) : Option SV → Option SV → Option (SV × Eff)
  | some s, some t => evalAppend P S id d T s t
  | _, _ => none
@[simp] theorem appendE_some (T : TypeId) (s t : SV) : appendE P S id d T (some s) (some t) = evalAppend P S id d T s t := (rfl)
theorem evalOp_append (x y : Operand) (T : TypeId) : evalOp P E S id ⟨d, .call { callee := .builtin .append, args := #[x, y], argTypes := #[T, T] }, ty, p, af, g⟩ = appendE P S id d T (evalO E x) (evalO E y) := by
  show (match evalO E x, evalO E y with | some s, some t => if T = T then evalAppend P S id d T s t else none | _, _ => none) = _
  unfold appendE
  split <;> simp
@[simp] theorem SeeT_append (x y : Operand) (T : TypeId) : @SeeT true dr P AA bb ii ⟨⟨d, .call { callee := .builtin .append, args := #[x, y], argTypes := #[T, T] }, ty, p, af, g⟩⟩ ⟨ll⟩ E S QQ = OpT (appendE P S (bb + ii) d T (evalO E x) (evalO E y)) (fun t s e => @VLt t dr P AA bb (ii + 1) ⟨ll⟩ (E.put d s) (S.app (bb + ii) e) QQ) := by
  rw [SeeT_op_ rfl, evalOp_append]
end
end
end Go.Sh

/- THE SHADOW, 13: what the operations' parts give, case by case. Over any program. -/
namespace Go.Sh

section
variable {P : Program} {E : Env} {S : St}
@[simp] theorem argsS_nil : argsS E [] = some [] := (rfl)
def consO {α : Type} : Option α → Option (List α) → Option (List α)
  | some s, some ss => some (s :: ss)
  | _, _ => none
@[simp] theorem consO_some {α : Type} (s : α) (ss : List α) : consO (some s) (some ss) = some (s :: ss) := (rfl)
@[simp] theorem argsS_cons (x : Operand) (r : List Operand) : argsS E (x :: r) = consO (evalO E x) (argsS E r) := by
  simp only [argsS, consO]
  split <;> simp_all
@[simp] theorem toDs_nil : toDs [] = some [] := by simp [toDs]
@[simp] theorem toDs_cons (s : SV) (r : List SV) : toDs (s :: r) = consO s.toD (toDs r) := by
  simp only [toDs, consO]
  split <;> simp_all
@[simp] theorem toDs_map : ∀ xs : List D, toDs (xs.map .d) = some xs
  | [] => by simp
  | x :: r => by simp only [List.map_cons, toDs_cons, toDs_map r]; rfl
@[simp] theorem toD_d (x : D) : (SV.d x).toD = some x := (rfl)
@[simp] theorem toD_fl (cs : List D) (n : Nat) : (SV.fl cs n).toD = some (.ps cs n) := (rfl)
@[simp] theorem toD_ag (cs : List SV) : (SV.ag cs).toD = (toDs cs).map .agg := (rfl)
def fnO (f : Fn) : Option (List D) → Option (List D) → Option D
  | some xs, some ys => some (.fn f xs ys)
  | _, _ => none
@[simp] theorem fnO_some (f : Fn) (xs ys : List D) : fnO f (some xs) (some ys) = some (.fn f xs ys) := (rfl)
@[simp] theorem cells_mv (b : Nat) : (SV.mv b).cells = [.mv b] := (rfl)
@[simp] theorem cells_dfn (f : Fn) (xs ys : List D) : (SV.d (.fn f xs ys)).cells = [.d (.fn f xs ys)] := (rfl)
@[simp] theorem cells_mp (ks vs : List D) : (SV.d (.mp ks vs)).cells = [.d (.mp ks vs)] := (rfl)
@[simp] theorem one_mv (b : Nat) : (SV.mv b).one = true := (rfl)
@[simp] theorem one_dfn (f : Fn) (xs ys : List D) : (SV.d (.fn f xs ys)).one = true := (rfl)
@[simp] theorem one_mp (ks vs : List D) : (SV.d (.mp ks vs)).one = true := (rfl)
@[simp] theorem cells_ag (cs : List SV) : (SV.ag cs).cells = cs := (rfl)
@[simp] theorem cells_agg (cs : List D) : (SV.d (.agg cs)).cells = cs.map .d := (rfl)
@[simp] theorem cells_v (x : Value) : (SV.d (.v x)).cells = [.d (.v x)] := (rfl)
@[simp] theorem cells_ps (cs : List D) (n : Nat) : (SV.d (.ps cs n)).cells = [.d (.ps cs n)] := (rfl)
@[simp] theorem cells_os (b off n : Nat) : (SV.os b off n).cells = [.os b off n] := (rfl)
@[simp] theorem one_ag (cs : List SV) : (SV.ag cs).one = true := (rfl)
@[simp] theorem one_agg (cs : List D) : (SV.d (.agg cs)).one = true := (rfl)
@[simp] theorem one_bool (b : Bool) : (SV.d (.v (.bool b))).one = true := (rfl)
@[simp] theorem one_int (k : IntKind) (n : Int) : (SV.d (.v (.int k n))).one = true := (rfl)
@[simp] theorem one_string (s : ByteArray) : (SV.d (.v (.string s))).one = true := (rfl)
@[simp] theorem one_ps (cs : List D) (n : Nat) : (SV.d (.ps cs n)).one = true := (rfl)
@[simp] theorem one_os (b off n : Nat) : (SV.os b off n).one = true := (rfl)
@[simp] theorem dcells_agg (cs : List D) : (D.agg cs).cells = cs := (rfl)
@[simp] theorem dcells_v_int (k : IntKind) (n : Int) : (D.v (.int k n)).cells = [.v (.int k n)] := (rfl)
@[simp] theorem dcells_v_string (s : ByteArray) : (D.v (.string s)).cells = [.v (.string s)] := (rfl)
@[simp] theorem done_agg (cs : List D) : (D.agg cs).one = true := (rfl)
@[simp] theorem done_int (k : IntKind) (n : Int) : (D.v (.int k n)).one = true := (rfl)
@[simp] theorem done_string (s : ByteArray) : (D.v (.string s)).one = true := (rfl)
@[simp] theorem partsS_nil : partsS E [] = some [] := (rfl)
def partC {α : Type} (i : Nat) : Option (Bool × List α) → Option (List (Nat × List α)) → Option (List (Nat × List α))
  | some (true, cs), some l => some ((i, cs) :: l)
  | _, _ => none
@[simp] theorem partC_some {α : Type} (i : Nat) (cs : List α) (l : List (Nat × List α)) : partC i (some (true, cs)) (some l) = some ((i, cs) :: l) := (rfl)
@[simp] theorem partsS_cons (i : Nat) (x : Operand) (r : List (Nat × Operand)) : partsS E ((i, x) :: r) = partC i ((evalO E x).map fun s => (s.one, s.cells)) (partsS E r) := by
  simp only [partsS]
  cases evalO E x with
  | none => rfl
  | some s =>
    cases partsS E r with
    | none => simp [partC]
    | some l => cases h : s.one <;> simp [partC, h]
@[simp] theorem partsD_nil : partsD E [] = some [] := (rfl)
@[simp] theorem partsD_cons (i : Nat) (x : Operand) (r : List (Nat × Operand)) : partsD E ((i, x) :: r) = partC i (((evalO E x).bind SV.toD).map fun s => (s.one, s.cells)) (partsD E r) := by
  simp only [partsD]
  cases evalO E x with
  | none => rfl
  | some s =>
    cases partsD E r with
    | none => simp [partC]
    | some l =>
      cases hd : s.toD with
      | none => simp [partC, hd]
      | some d => cases h : d.one <;> simp [partC, hd, h]
@[simp] theorem fillL_nil {α : Type} (place : Nat → Option (Nat × Nat)) (cells : List α) : fillL place cells [] = some cells := (rfl)
def fill1 {α : Type} (place : Nat → Option (Nat × Nat)) (cells cs : List α) (r : List (Nat × List α)) : Option (Nat × Nat) → Option (List α)
  | some (off, size) => if cs.length = size ∧ off + size ≤ cells.length then fillL place (cells.take off ++ cs ++ cells.drop (off + size)) r else none
  | none => none
@[simp] theorem fill1_some {α : Type} (place : Nat → Option (Nat × Nat)) (cells cs : List α) (r : List (Nat × List α)) (off size : Nat) : fill1 place cells cs r (some (off, size)) = if cs.length = size ∧ off + size ≤ cells.length then fillL place (cells.take off ++ cs ++ cells.drop (off + size)) r else none := (rfl)

@[simp] theorem fillL_cons {α : Type} (place : Nat → Option (Nat × Nat)) (cells : List α) (i : Nat) (cs : List α) (r : List (Nat × List α)) : fillL place cells ((i, cs) :: r) = fill1 place cells cs r (place i) := by
  show (match place i with | some (off, size) => if cs.length = size ∧ off + size ≤ cells.length then fillL place (cells.take off ++ cs ++ cells.drop (off + size)) r else none | none => none) = _
  unfold fill1
  split <;> simp_all

@[simp] theorem evalLen_string (b : ByteArray) (T : TypeId) : evalLen P (.d (.v (.string b))) T = if isString P T = true then some (.d (.v (.int .i64 b.size))) else none := (rfl)
@[simp] theorem evalLen_ps (cs : List D) (n : Nat) (T : TypeId) : evalLen P (.d (.ps cs n)) T = if isSlice P T = true then some (.d (.v (.int .i64 n))) else none := (rfl)
@[simp] theorem evalLen_os (b off n : Nat) (T : TypeId) : evalLen P (.os b off n) T = if isSlice P T = true then some (.d (.v (.int .i64 n))) else none := (rfl)
@[simp] theorem evalLen_sk (b n sz : Nat) (T : TypeId) : evalLen P (.sk b n sz) T = if isSlice P T = true then some (.d (.v (.int .i64 n))) else none := (rfl)
@[simp] theorem evalLen_mp (ks vs : List D) (T : TypeId) : evalLen P (.d (.mp ks vs)) T = if isMap P T = true then some (.d (.v (.int .i64 ks.length))) else none := (rfl)
@[simp] theorem rowS_ps (cs : List D) (n : Nat) : rowS (.d (.ps cs n)) = some (cs, n) := (rfl)
@[simp] theorem rowS_fl (cs : List D) (n : Nat) : rowS (.fl cs n) = some (cs, n) := (rfl)
def rowAt (i : Int) : Option (List D × Nat) → Option (TypeId × Nat) → Option SV
  | some (cs, n), some (_, sz) => onlyIf (0 ≤ i ∧ i < n) (.d (.pp cs (i.toNat * sz)))
  | _, _ => none
@[simp] theorem rowAt_some (i : Int) (cs : List D) (n e sz : Nat) : rowAt i (some (cs, n)) (some (e, sz)) = onlyIf (0 ≤ i ∧ i < n) (.d (.pp cs (i.toNat * sz))) := (rfl)
@[simp] theorem evalIndexAddr_ps (T : TypeId) (cs : List D) (n : Nat) (i : Int) : evalIndexAddr P T (.d (.ps cs n)) i = rowAt i (some (cs, n)) (elemOf P T) := (rfl)
def osAt (b off n : Nat) (i : Int) : Option (TypeId × Nat) → Option SV
  | some (_, sz) => onlyIf (0 ≤ i ∧ i < n) (.op b (off + i.toNat * sz))
  | none => none
@[simp] theorem osAt_some (b off n : Nat) (i : Int) (e sz : Nat) : osAt b off n i (some (e, sz)) = onlyIf (0 ≤ i ∧ i < n) (.op b (off + i.toNat * sz)) := (rfl)
@[simp] theorem evalIndexAddr_os (T : TypeId) (b off n : Nat) (i : Int) : evalIndexAddr P T (.os b off n) i = osAt b off n i (elemOf P T) := (rfl)
def skAt (b n : Nat) (i : Int) : Option (TypeId × Nat) → Option SV
  | some (_, sz) => onlyIf (0 ≤ i ∧ i < n) (.op b (i.toNat * sz))
  | none => none
@[simp] theorem skAt_some (b n : Nat) (i : Int) (e sz : Nat) : skAt b n i (some (e, sz)) = onlyIf (0 ≤ i ∧ i < n) (.op b (i.toNat * sz)) := (rfl)
@[simp] theorem evalIndexAddr_sk (T : TypeId) (b n sz : Nat) (i : Int) : evalIndexAddr P T (.sk b n sz) i = skAt b n i (elemOf P T) := (rfl)
@[simp] theorem onlyIf_map {α β : Type} (c : Prop) [Decidable c] (x : α) (f : α → β) : (onlyIf c x).map f = onlyIf c (f x) := by
  unfold onlyIf
  split <;> rfl
@[simp] theorem onlyIf_true {α : Type} (x : α) : onlyIf True x = some x := (rfl)
@[simp] theorem mkIfc_d (T : TypeId) (x : D) : mkIfc T (.d x) = .d (.ifc T x) := (rfl)
@[simp] theorem mkIfc_ag (T : TypeId) (cs : List SV) : mkIfc T (.ag cs) = .fc T (.ag cs) := (rfl)
@[simp] theorem tupS_tu (cs : List SV) (i : Nat) : tupS (.tu cs) i = cs[i]? := (rfl)
@[simp] theorem tupS_tup (cs : List D) (i : Nat) : tupS (.d (.tup cs)) i = cs[i]?.map .d := (rfl)

def assertC (P : Program) (A : TypeId) (t : TypeId) (s : SV) : Bool → Option SV → Option SV
  | true, some z => some (if t = A then .tu [s, .d (.v (.bool true))] else .tu [z, .d (.v (.bool false))])
  | _, _ => none
@[simp] theorem assertC_some (A t : TypeId) (s z : SV) : assertC P A t s true (some z) = some (if t = A then .tu [s, .d (.v (.bool true))] else .tu [z, .d (.v (.bool false))]) := (rfl)
@[simp] theorem evalAssert_ifc (A t : TypeId) (x : D) : evalAssert P A true (.d (.ifc t x)) = assertC P A t (.d x) (concrete P A) (zeroS P A) := by
  unfold evalAssert assertC
  cases concrete P A <;> cases zeroS P A <;> rfl
def intO : Option SV → Option Int
  | some (.d (.v (.int _ n))) => some n
  | _ => none
@[simp] theorem intO_some (k : IntKind) (n : Int) : intO (some (.d (.v (.int k n)))) = some n := (rfl)
@[simp] theorem bndS_none (d : Nat) : bndS E d none = some (d : Int) := (rfl)
@[simp] theorem bndS_some (d : Nat) (x : Operand) : bndS E d (some x) = intO (evalO E x) := by
  show (match evalO E x with | some (.d (.v (.int _ n))) => some n | _ => none) = _
  rfl
def sliceRow (cs : List D) (n : Nat) : Option (TypeId × Nat) → Option Int → Option Int → Option SV
  | some (_, sz), some l, some u => onlyIf (0 ≤ l ∧ l ≤ u ∧ u ≤ n) (.d (.ps ((cs.drop (l.toNat * sz)).take ((u.toNat - l.toNat) * sz)) (u.toNat - l.toNat)))
  | _, _, _ => none
@[simp] theorem sliceRow_some (cs : List D) (n e sz : Nat) (l u : Int) : sliceRow cs n (some (e, sz)) (some l) (some u) = onlyIf (0 ≤ l ∧ l ≤ u ∧ u ≤ n) (.d (.ps ((cs.drop (l.toNat * sz)).take ((u.toNat - l.toNat) * sz)) (u.toNat - l.toNat))) := (rfl)
@[simp] theorem evalSlice_ps (T : TypeId) (cs : List D) (n : Nat) (lo hi : Option Operand) : evalSlice P E S T (.d (.ps cs n)) lo hi = sliceRow cs n (elemOf P T) (bndS E 0 lo) (bndS E n hi) := (rfl)
def sliceSk (b n sz : Nat) : Option (TypeId × Nat) → Option Int → Option SV
  | some _, some u => onlyIf (0 ≤ u ∧ u ≤ n) (.sk b u.toNat sz)
  | _, _ => none
@[simp] theorem sliceSk_some (b n sz : Nat) (x : TypeId × Nat) (u : Int) : sliceSk b n sz (some x) (some u) = onlyIf (0 ≤ u ∧ u ≤ n) (.sk b u.toNat sz) := (rfl)
@[simp] theorem evalSlice_sk (T : TypeId) (b n sz : Nat) (hi : Option Operand) : evalSlice P E S T (.sk b n sz) none hi = sliceSk b n sz (elemOf P T) (bndS E n hi) := by
  show (match elemOf P T, bndS E n hi with | some _, some u => onlyIf (0 ≤ u ∧ u ≤ n) (SV.sk b u.toNat sz) | _, _ => none) = _
  cases elemOf P T <;> cases bndS E n hi <;> rfl
def makeC (md : List Nat) (id : Nat) (dst : Option Nat) (l c : Int) : Option (List SV × Nat × Nat) → Option (SV × Eff)
  | some (zs, sz, by_) => if (dst.any fun d => md.contains d) = true then onlyIf (l = 0 ∧ 0 < sz ∧ 0 ≤ c ∧ (by_ : Int) * c ≤ 281474976710656 ∧ c ≤ 9223372036854775807) (.tp id 0 [] 0, .tip id 0 sz)
    else onlyIf (c = l ∧ 0 ≤ l ∧ (by_ : Int) * l ≤ 281474976710656 ∧ l ≤ 9223372036854775807) (.os id 0 l.toNat, .new ((List.range (l.toNat * sz)).map fun j => zs.getD (j % sz) (.d (.v undef))))
  | none => none
def madeS (zs : List SV) (sz n : Nat) : List SV := (List.range (n * sz)).map fun j => zs.getD (j % sz) (.d (.v undef))
@[simp] theorem makeC_some (md : List Nat) (id : Nat) (dst : Option Nat) (l c : Int) (zs : List SV) (sz by_ : Nat) : makeC md id dst l c (some (zs, sz, by_)) = if (dst.any fun d => md.contains d) = true then onlyIf (l = 0 ∧ 0 < sz ∧ 0 ≤ c ∧ (by_ : Int) * c ≤ 281474976710656 ∧ c ≤ 9223372036854775807) (.tp id 0 [] 0, .tip id 0 sz)
    else onlyIf (c = l ∧ 0 ≤ l ∧ (by_ : Int) * l ≤ 281474976710656 ∧ l ≤ 9223372036854775807) (.os id 0 l.toNat, .new (madeS zs sz l.toNat)) := (rfl)
@[simp] theorem evalMake_int (id : Nat) (d : Option Nat) (T : TypeId) (k k' : IntKind) (l c : Int) : evalMake P S id d T (.d (.v (.int k l))) (.d (.v (.int k' c))) = makeC S.md id d l c (makeOf P T) := by
  unfold evalMake makeC
  cases makeOf P T <;> rfl

def convInt (n : Int) : Option IntKind → Bool → Option (SV × Eff)
  | some k, true => some (.d (.v (.int k (k.wrap n))), .no)
  | _, _ => none
@[simp] theorem convInt_some (n : Int) (k : IntKind) : convInt n (some k) true = some (.d (.v (.int k (k.wrap n))), .no) := (rfl)
@[simp] theorem evalConv_int (id T U : Nat) (k : IntKind) (n : Int) : evalConv P id T U (.d (.v (.int k n))) = convInt n (intKindOf P U) (known P T) := (rfl)
def convRow (n : Nat) : Option (List Int) → Option TypeId → Bool → Option (SV × Eff)
  | some ns, some _, true => onlyIf (ns.length = n) (.d (.v (.string (strOfNums ns))), .no)
  | _, _, _ => none
@[simp] theorem convRow_some (n : Nat) (ns : List Int) (e : TypeId) : convRow n (some ns) (some e) true = onlyIf (ns.length = n) (.d (.v (.string (strOfNums ns))), .no) := (rfl)
@[simp] theorem evalConv_fl (id T U : Nat) (cs : List D) (n : Nat) : evalConv P id T U (.fl cs n) = convRow n (numsOf cs) (bytesOf P T) (isString P U) := (rfl)
def appFl (md : List Nat) (id : Nat) (dst : Option Nat) (cs : List D) (n : Nat) : Option (List D × Nat) → Option (TypeId × Nat × Nat) → Option (SV × Eff)
  | some (ds, m), some (_, sz, by_) => if m = 0 then some (.fl cs n, .no) else
        if (dst.any fun d => md.contains d) = true then onlyIf (cs.length = n * sz ∧ ds.length = m * sz ∧ appBound n m by_) (.os id 0 (n + m), .new ((cs ++ ds).map .d))
        else onlyIf (cs.length = n * sz ∧ ds.length = m * sz ∧ appBound n m by_) (.tp id 0 (cs ++ ds) (n + m), .tip id (n + m) sz)
  | _, _ => none
@[simp] theorem appFl_some (md : List Nat) (id : Nat) (dst : Option Nat) (cs ds : List D) (n m e sz by_ : Nat) : appFl md id dst cs n (some (ds, m)) (some (e, sz, by_)) = if m = 0 then some (.fl cs n, .no) else
        if (dst.any fun d => md.contains d) = true then onlyIf (cs.length = n * sz ∧ ds.length = m * sz ∧ appBound n m by_) (.os id 0 (n + m), .new ((cs ++ ds).map .d))
        else onlyIf (cs.length = n * sz ∧ ds.length = m * sz ∧ appBound n m by_) (.tp id 0 (cs ++ ds) (n + m), .tip id (n + m) sz) := (rfl)
@[simp] theorem evalAppend_fl (id : Nat) (d : Option Nat) (T : TypeId) (cs : List D) (n : Nat) (t : SV) : evalAppend P S id d T (.fl cs n) t = appFl S.md id d cs n (rowS t) (appOf P T) := by
  unfold evalAppend appFl
  cases rowS t <;> cases appOf P T <;> rfl
def appTp (T : Nat → Option (Nat × Nat)) (i q : Nat) (cs : List D) (n : Nat) : Option (List D × Nat) → Option (TypeId × Nat × Nat) → Option (SV × Eff)
  | some (ds, m), some (_, sz, by_) => onlyIf (T i = some (q + n, sz) ∧ cs.length = n * sz ∧ ds.length = m * sz ∧ appBound n m by_) (.tp i q (cs ++ ds) (n + m), .tip i (q + (n + m)) sz)
  | _, _ => none
@[simp] theorem appTp_some (T : Nat → Option (Nat × Nat)) (i q : Nat) (cs ds : List D) (n m e sz by_ : Nat) : appTp T i q cs n (some (ds, m)) (some (e, sz, by_)) = onlyIf (T i = some (q + n, sz) ∧ cs.length = n * sz ∧ ds.length = m * sz ∧ appBound n m by_) (.tp i q (cs ++ ds) (n + m), .tip i (q + (n + m)) sz) := (rfl)
@[simp] theorem evalAppend_tp (id : Nat) (d : Option Nat) (T i q : Nat) (cs : List D) (n : Nat) (t : SV) : evalAppend P S id d T (.tp i q cs n) t = appTp S.T i q cs n (rowS t) (appOf P T) := by
  unfold evalAppend appTp
  cases rowS t <;> cases appOf P T <;> rfl

@[simp] theorem idxK_consS (k : ByteArray) (ks : List D) (s : ByteArray) : idxK (.v (.string k) :: ks) s = if k = s then some (some 0) else (idxK ks s).map (·.map (· + 1)) := (rfl)
theorem lookS_at {T e : TypeId} {ks : List D} {vs : List SV} {s : ByteArray} {ok : Bool} {j : Nat} {v : SV} (hT : Sh.mapOf P T = some e) (hi : idxK ks s = some (some j)) (hv : vs[j]? = some v) : lookS P T ks vs s ok = some (if ok then .tu [v, .d (.v (.bool true))] else v) := by
  simp [lookS, hT, hi, hv, lookR]
theorem lookS_none {T e : TypeId} {ks : List D} {vs : List SV} {s : ByteArray} {ok : Bool} {z : SV} (hT : Sh.mapOf P T = some e) (hi : idxK ks s = some none) (hz : zeroS P e = some z) : lookS P T ks vs s ok = some (if ok then .tu [z, .d (.v (.bool false))] else z) := by
  simp [lookS, hT, hi, hz, lookR]
theorem updK_at {ks : List D} {vs : List SV} {s : ByteArray} {v : SV} {j : Nat} (hi : idxK ks s = some (some j)) : updK ks vs s v = some (.mc ks (vs.set j v)) := by simp [updK, hi]
theorem updK_none {ks : List D} {vs : List SV} {s : ByteArray} {v : SV} (hi : idxK ks s = some none) : updK ks vs s v = some (.mc (ks ++ [.v (.string s)]) (vs ++ [v])) := by simp [updK, hi]
theorem idxK_map {α : Type} (f : α → ByteArray) (s : ByteArray) : ∀ l : List α, idxK (l.map fun x => .v (.string (f x))) s = some (l.findIdx? fun x => decide (f x = s))
  | [] => rfl
  | x :: r => by
    simp only [List.map_cons, idxK_consS, idxK_map f s r, Option.map_some, List.findIdx?_cons]
    by_cases h : f x = s <;> simp [h]

@[simp] theorem binS_add (T : TypeId) (k : IntKind) (a b : Int) : binS P .add T (.int k a) (.int k b) = some (.int k (k.wrap (a + b))) := by simp [binS, isShift, intBin]
@[simp] theorem binS_sub (T : TypeId) (k : IntKind) (a b : Int) : binS P .sub T (.int k a) (.int k b) = some (.int k (k.wrap (a - b))) := by simp [binS, isShift, intBin]
@[simp] theorem binS_quo (T : TypeId) (k : IntKind) (a b : Int) : binS P .quo T (.int k a) (.int k b) = if b = 0 then none else some (.int k (k.wrap (a.tdiv b))) := by simp [binS, isShift, intBin]
@[simp] theorem binS_rem (T : TypeId) (k : IntKind) (a b : Int) : binS P .rem T (.int k a) (.int k b) = if b = 0 then none else some (.int k (a.tmod b)) := by simp [binS, isShift, intBin]
@[simp] theorem binS_eql (T : TypeId) (k : IntKind) (a b : Int) : binS P .eql T (.int k a) (.int k b) = some (.bool (decide (a = b))) := by
  have : (a == b) = decide (a = b) := by rw [Bool.eq_iff_iff]; simp
  simp [binS, isShift, intBin, this]
@[simp] theorem binS_neq (T : TypeId) (k : IntKind) (a b : Int) : binS P .neq T (.int k a) (.int k b) = some (.bool (!decide (a = b))) := by
  have : (a == b) = decide (a = b) := by rw [Bool.eq_iff_iff]; simp
  simp [binS, isShift, intBin, bne, this]
@[simp] theorem binS_lss (T : TypeId) (k : IntKind) (a b : Int) : binS P .lss T (.int k a) (.int k b) = some (.bool (decide (a < b))) := by simp [binS, isShift, intBin]
@[simp] theorem binS_leq (T : TypeId) (k : IntKind) (a b : Int) : binS P .leq T (.int k a) (.int k b) = some (.bool (decide (a ≤ b))) := by simp [binS, isShift, intBin]
@[simp] theorem binS_gtr (T : TypeId) (k : IntKind) (a b : Int) : binS P .gtr T (.int k a) (.int k b) = some (.bool (decide (b < a))) := by simp [binS, isShift, intBin]
@[simp] theorem binS_geq (T : TypeId) (k : IntKind) (a b : Int) : binS P .geq T (.int k a) (.int k b) = some (.bool (decide (b ≤ a))) := by simp [binS, isShift, intBin]
theorem toList_eq {a b : ByteArray} : (a.toList == b.toList) = decide (a = b) := by
  have inj : a.toList = b.toList ↔ a = b := by
    constructor
    · intro h
      have e : ∀ x : ByteArray, x.toList = x.data.toList := fun x => Go.ByteArray.toList_eq x
      rw [e, e] at h
      cases a; cases b; simp only at h
      congr 1
      exact Array.ext' h
    · rintro rfl; rfl
  by_cases h : a = b
  · subst h; simp
  · rw [decide_eq_false h]
    simp only [beq_eq_false_iff_ne, ne_eq, inj]
    exact h
@[simp] theorem binS_seql (T : TypeId) (a b : ByteArray) : binS P .eql T (.string a) (.string b) = some (.bool (decide (a = b))) := by simp [binS, strBin, toList_eq]
@[simp] theorem binS_sneq (T : TypeId) (a b : ByteArray) : binS P .neq T (.string a) (.string b) = some (.bool (!decide (a = b))) := by simp [binS, strBin, toList_eq]
@[simp] theorem binS_slss (T : TypeId) (a b : ByteArray) : binS P .lss T (.string a) (.string b) = some (.bool (Op.bytesLess a.toList b.toList)) := (rfl)
@[simp] theorem binS_sadd (T : TypeId) (a b : ByteArray) : binS P .add T (.string a) (.string b) = if a.size + b.size ≤ 9223372036854775807 then some (.string (a ++ b)) else none := by simp [binS, strBin]
@[simp] theorem unS_not (b : Bool) : unS .not (.bool b) = some (.bool (!b)) := (rfl)
@[simp] theorem resS_nil : resS P E S [] = some (.tu []) := (rfl)
@[simp] theorem resS_one (x : ResultVar) : resS P E S [x] = resOne P E S x := by
  simp only [resS, resList]
  cases resOne P E S x <;> rfl
@[simp] theorem resS_two (x y : ResultVar) : resS P E S [x, y] = (consO (resOne P E S x) (consO (resOne P E S y) (some []))).map .tu := by
  simp only [resS, resList]
  cases resOne P E S x <;> cases resOne P E S y <;> rfl
@[simp] theorem resOne_tmp (t : Nat) : resOne P E S (.tmp t) = evalO E (.tmp t) := (rfl)
def cellE (P : Program) (T : TypeId) (B : Nat → Option (List SV)) : Option SV → Option SV
  | some (.op b off) => match B b with
    | some cs => loadS P T cs off
    | none => none
  | _ => none
def cellB (P : Program) (T : TypeId) (off : Nat) : Option (List SV) → Option SV
  | some cs => loadS P T cs off
  | none => none
@[simp] theorem cellB_some (T off : Nat) (cs : List SV) : cellB P T off (some cs) = loadS P T cs off := (rfl)
@[simp] theorem cellE_op (T : TypeId) (B : Nat → Option (List SV)) (b off : Nat) : cellE P T B (some (.op b off)) = cellB P T off (B b) := (rfl)
@[simp] theorem resOne_cell (t T : Nat) : resOne P E S (.cell t T) = cellE P T S.B (evalO E (.tmp t)) := (rfl)
variable {B : Nat → Option (List SV)}
@[simp] theorem frz_d (k : Nat) (x : D) : frz B (k + 1) (.d x) = some x := (rfl)
@[simp] theorem frz_fl (k : Nat) (cs : List D) (n : Nat) : frz B (k + 1) (.fl cs n) = some (.ps cs n) := (rfl)
@[simp] theorem frz_tp (k i q : Nat) (cs : List D) (n : Nat) : frz B (k + 1) (.tp i q cs n) = some (.ps cs n) := (rfl)
@[simp] theorem frz_ag (k : Nat) (cs : List SV) : frz B (k + 1) (.ag cs) = (mapO (frz B k) cs).map .agg := (rfl)
@[simp] theorem frz_tu (k : Nat) (cs : List SV) : frz B (k + 1) (.tu cs) = (mapO (frz B k) cs).map .tup := (rfl)
@[simp] theorem frz_fc (k : Nat) (t : TypeId) (x : SV) : frz B (k + 1) (.fc t x) = (frz B k x).map (.ifc t) := (rfl)
def frzP (B : Nat → Option (List SV)) (k off : Nat) : Option (List SV) → Option D
  | some cs => (mapO (frz B k) cs).map fun ds => .pp ds off
  | none => none
@[simp] theorem frzP_some (k off : Nat) (cs : List SV) : frzP B k off (some cs) = (mapO (frz B k) cs).map fun ds => .pp ds off := (rfl)
@[simp] theorem frz_op (k b off : Nat) : frz B (k + 1) (.op b off) = frzP B k off (B b) := (rfl)
def frzS (B : Nat → Option (List SV)) (k off n : Nat) : Option (List SV) → Option D
  | some cs => (mapO (frz B k) cs).map fun ds => .ps (ds.drop off) n
  | none => none
@[simp] theorem frzS_some (k off n : Nat) (cs : List SV) : frzS B k off n (some cs) = (mapO (frz B k) cs).map fun ds => .ps (ds.drop off) n := (rfl)
@[simp] theorem frz_os (k b off n : Nat) : frz B (k + 1) (.os b off n) = frzS B k off n (B b) := (rfl)
@[simp] theorem frz_fn (k : Nat) (f : Fn) (xs ys : List SV) : frz B (k + 1) (.fn f xs ys) = fnO f (mapO (frz B k) xs) (mapO (frz B k) ys) := by
  simp only [frz]
  cases mapO (frz B k) xs <;> cases mapO (frz B k) ys <;> rfl
def frzMv (B : Nat → Option (List SV)) (k : Nat) : Option (List SV) → Option D
  | some [.mc ks vs] => (mapO (frz B k) vs).map (.mp ks)
  | _ => none
@[simp] theorem frzMv_some (k : Nat) (ks : List D) (vs : List SV) : frzMv B k (some [.mc ks vs]) = (mapO (frz B k) vs).map (.mp ks) := (rfl)
@[simp] theorem frz_mv (k b : Nat) : frz B (k + 1) (.mv b) = frzMv B k (B b) := by
  simp only [frz, frzMv]
  rfl
@[simp] theorem mapO_nil {α β : Type} (f : α → Option β) : mapO f [] = some [] := (rfl)
@[simp] theorem mapO_cons {α β : Type} (f : α → Option β) (x : α) (r : List α) : mapO f (x :: r) = consO (f x) (mapO f r) := by
  simp only [mapO, consO]
  split <;> simp_all
@[simp] theorem mapO_d (k : Nat) (l : List D) : mapO (frz B (k + 1)) (l.map .d) = some l := by
  have := mapO_map (f := frz B (k + 1)) (g := SV.d) (k := fun x => x) (fun x => rfl) l
  simpa using this
@[simp] theorem mapO_dcomp {α : Type} (k : Nat) (f : α → D) (l : List α) : mapO (frz B (k + 1)) (l.map (SV.d ∘ f)) = some (l.map f) := mapO_map (f := frz B (k + 1)) (g := SV.d ∘ f) (k := f) (fun x => rfl) l
end
@[simp] theorem numsOf_nil : numsOf [] = some [] := (rfl)
@[simp] theorem numsOf_cons (n : Int) (r : List D) : numsOf (.v (.int .u8 n) :: r) = (numsOf r).map (n :: ·) := (rfl)
@[simp] theorem le_add2 (n a0 a1 : Nat) : n ≤ n + a0 + a1 := by omega
@[simp] theorem le_add3 (n a0 a1 a2 : Nat) : n ≤ n + a0 + a1 + a2 := by omega
@[simp] theorem le_add4 (n a0 a1 a2 a3 : Nat) : n ≤ n + a0 + a1 + a2 + a3 := by omega
@[simp] theorem le_add5 (n a0 a1 a2 a3 a4 : Nat) : n ≤ n + a0 + a1 + a2 + a3 + a4 := by omega
@[simp] theorem le_add8 (n a0 a1 a2 a3 a4 a5 a6 a7 : Nat) : n ≤ n + a0 + a1 + a2 + a3 + a4 + a5 + a6 + a7 := by omega
end Go.Sh

/- THE SHADOW, 15: a call whose result is new memory of its own: it may be written on. Over any program. -/
namespace Go.Sh
open Go.RowKit (Below)

mutual
def SV.shift (k : Nat) : SV → SV
  | .op b off => .op (k + b) off
  | .os b off n => .os (k + b) off n
  | .ag cs => .ag (shiftS k cs)
  | .tu cs => .tu (shiftS k cs)
  | .fc t x => .fc t (SV.shift k x)
  | .fn f xs ys => .fn f (shiftS k xs) (shiftS k ys)
  | .sk b n sz => .sk (k + b) n sz
  | s => s
def shiftS (k : Nat) : List SV → List SV
  | [] => []
  | s :: r => SV.shift k s :: shiftS k r
end
theorem shiftS_eq (k : Nat) : ∀ cs : List SV, shiftS k cs = cs.map (SV.shift k)
  | [] => rfl
  | s :: r => by rw [shiftS, shiftS_eq k r]; rfl
theorem shift_cell (k : Nat) (s : SV) : (s.shift k).cell = s.cell := by cases s <;> rfl
@[simp] theorem shift_d (k : Nat) (x : D) : (SV.d x).shift k = .d x := by simp [SV.shift]
@[simp] theorem shift_fl (k : Nat) (cs : List D) (n : Nat) : (SV.fl cs n).shift k = .fl cs n := by simp [SV.shift]
@[simp] theorem shift_os (k b off n : Nat) : (SV.os b off n).shift k = .os (k + b) off n := by simp [SV.shift]
@[simp] theorem shift_op (k b off : Nat) : (SV.op b off).shift k = .op (k + b) off := by simp [SV.shift]
@[simp] theorem shift_ag (k : Nat) (cs : List SV) : (SV.ag cs).shift k = .ag (cs.map (SV.shift k)) := by simp [SV.shift, shiftS_eq]
@[simp] theorem shift_tu (k : Nat) (cs : List SV) : (SV.tu cs).shift k = .tu (cs.map (SV.shift k)) := by simp [SV.shift, shiftS_eq]

def ghB (Bx : Nat → Option Nat) : Gh := ⟨Bx, fun _ => none, fun _ => 0, fun _ => none⟩
theorem VR.shiftTo {Bx : Nat → Option Nat} {w : World} {G : Gh} {k : Nat} (h : ∀ b B, Bx b = some B → G.box (k + b) = some B) {s : SV} {u : Value} (hv : VR (ghB Bx) w s u) : VR G w (s.shift k) u := by
  induction hv with
  | d h' => rw [shift_d]; exact .d (h'.keep (fun _ => Nat.zero_le _) (fun _ _ _ => rfl) (fun _ _ _ _ h => h))
  | fl h' hc => rw [shift_fl]; exact .fl (h'.keep (fun _ => Nat.zero_le _) (fun _ _ _ => rfl) (fun _ _ _ _ h => h)) hc
  | tp _ ht _ _ => exact absurd ht (by simp [ghB])
  | op hb => rw [shift_op]; exact .op (h _ _ hb)
  | os hb hn => rw [shift_os]; exact .os (h _ _ hb) hn
  | ag hl hk hv ih => rw [shift_ag]; exact .ag (by simpa using hl) (fun j hj => by simp only [List.getElem_map, shift_cell]; exact hk j (by simpa using hj)) (fun j hj hj' => by simp only [List.getElem_map]; exact ih j (by simpa using hj) hj')
  | tu hl hv ih => rw [shift_tu]; exact .tu (by simpa using hl) (fun j hj hj' => by simp only [List.getElem_map]; exact ih j (by simpa using hj) hj')
  | fc h' ih => simp only [SV.shift]; exact .fc ih
  | fn hl hm hv hu ih1 ih2 =>
    simp only [SV.shift, shiftS_eq]
    exact .fn (by simpa using hl) (by simpa using hm) (fun j hj hj' => by simp only [List.getElem_map]; exact ih1 j (by simpa using hj) hj') (fun j hj hj' => by simp only [List.getElem_map]; exact ih2 j (by simpa using hj) hj')
  | mv hb => exact absurd hb (by simp [ghB])
  | iv hb => exact absurd hb (by simp [ghB])
  | sk hb hn hc hr => simp only [SV.shift]; exact .sk (h _ _ hb) hn hc hr

def OwnB (Bx : Nat → Option Nat) (lo : Nat) (w : World) (b : Nat) (cs : List SV) : Prop :=
  ∃ (X : Nat) (us : Array Value) (T : TypeId × (Nat × Nat)), Bx b = some X ∧ w.heap[X]? = some (.cells us T.1 T.2) ∧ cs.length ≤ us.size ∧ unf T.2 us.size ∧ lo ≤ X ∧ ∀ j (h : j < cs.length) (h' : j < us.size), (cs[j]).cell = true ∧ VR (ghB Bx) w cs[j] us[j]

def FCall (P : Program) (gl : Nat → Option D) (f : FuncId) (args : List D) (r : SV) (K : Nat) (B : Nat → Option (List SV)) : Prop :=
  FnOk P f ∧
  ∀ (m : Nat → Nat) (w : World) (vals : List Value), (∀ B, w.heap.size ≤ B → m B = 0) → GOK gl m w → vals.length = args.length → (∀ j (h : j < args.length) (h' : j < vals.length), PV m w args[j] vals[j]) →
    Calls P f vals.toArray w fun e w' => ∃ u Bx, e = .returned u ∧ VR (ghB Bx) w' r u ∧ (∀ b X, Bx b = some X → b < K) ∧ (∀ b cs, B b = some cs → OwnB Bx w.heap.size w' b cs) ∧
      (∀ b b' X, B b ≠ none → B b' ≠ none → Bx b = some X → Bx b' = some X → b = b') ∧ Below w.heap.size w w'

def addS (S : St) (K : Nat) (B : Nat → Option (List SV)) : St :=
  { S with B := fun x => if x < S.nx then S.B x else if x < S.nx + K then (B (x - S.nx)).map (·.map (SV.shift S.nx)) else none, nx := S.nx + K }
@[simp] theorem addS_n (S : St) (K : Nat) (B : Nat → Option (List SV)) : (addS S K B).n = S.n := (rfl)
@[simp] theorem addS_nx (S : St) (K : Nat) (B : Nat → Option (List SV)) : (addS S K B).nx = S.nx + K := (rfl)
@[simp] theorem addS_B (S : St) (K : Nat) (B : Nat → Option (List SV)) (x : Nat) : (addS S K B).B x = if x < S.nx then S.B x else if x < S.nx + K then (B (x - S.nx)).map (·.map (SV.shift S.nx)) else none := (rfl)
theorem addS_keeps (S : St) (K : Nat) (B : Nat → Option (List SV)) : Keeps S (addS S K B) := ⟨rfl, rfl, rfl, Nat.le_add_right _ _⟩

section
variable {P : Program} {E : Env} {S : St}
theorem frzM_new {m0 : Nat → Nat} {w0 : World} {G : Gh} {F : Nat → Prop} {a : Act} {w : World} (h : Rel m0 w0 G E S F a w) : ∀ B, w.heap.size ≤ B → frzM S G B = 0 := fun B hB => (frzM_low h (.inr hB)).trans (h.new B hB)
theorem frzM_gok {m0 : Nat → Nat} {w0 : World} {G : Gh} {F : Nat → Prop} {a : Act} {w : World} (h : Rel m0 w0 G E S F a w) : GOK S.gl (frzM S G) w :=
  ⟨fun g y hg => (h.glob g y hg).keep (frzM_le h) (fun _ _ _ => rfl) (fun _ _ _ _ h => h), fun hg => frzM_ok h hg⟩
theorem called_same {m0 : Nat → Nat} {w0 : World} {G : Gh} {F : Nat → Prop} {a : Act} {w w' : World} (hr : Rel m0 w0 G E S F a w) (hb : Below w.heap.size w w') : Rel m0 w0 G E S F a w' ∧ Fut G w G w' :=
  hr.called (m' := G.mark) (fun _ _ => rfl) (fun B hB => hr.new B (Nat.le_trans hb.size hB)) (fun _ B hB hpos => by rw [hr.new B hB] at hpos; exact absurd hpos (Nat.lt_irrefl _)) hb

theorem LCall.ofP {f : FuncId} {ss : List SV} {ds : List D} {x : Value} (h : PCall P S.gl f ds (.v x)) {k : Nat} (hd : mapO (frz S.B k) ss = some ds) : LCall P f ss S (.d (.v x)) S := by
  refine ⟨h.1, Keeps.refl S, fun m0 w0 G E F a w vals hr hF hl hv => ?_⟩
  obtain ⟨d1, d2⟩ := mapO_get hd
  refine (h.2 (frzM S G) w vals (frzM_new hr) (frzM_gok hr) (by omega) (fun j hj hj' => frz_ok hr (d2 j (by omega) hj) (hv j (by omega) hj'))).mono ?_
  rintro e w' ⟨u, m', rfl, h1, h2, h3, h4, _⟩
  obtain ⟨k1, k2⟩ := called_same hr h4
  cases h1 with
  | v hx => exact ⟨x, G, rfl, .d (.v hx), k1.less (fun b hb => hb.1), k2⟩

theorem LCall.ofF {f : FuncId} {ss : List SV} {ds : List D} {r : SV} {K : Nat} {B : Nat → Option (List SV)} (h : FCall P S.gl f ds r K B) {k : Nat} (hd : mapO (frz S.B k) ss = some ds) : LCall P f ss S (r.shift S.nx) (addS S K B) := by
  refine ⟨h.1, addS_keeps S K B, fun m0 w0 G E F a w vals hr hF hl hv => ?_⟩
  obtain ⟨d1, d2⟩ := mapO_get hd
  refine (h.2 (frzM S G) w vals (frzM_new hr) (frzM_gok hr) (by omega) (fun j hj hj' => frz_ok hr (d2 j (by omega) hj) (hv j (by omega) hj'))).mono ?_
  rintro e w' ⟨u, Bx, rfl, hu, hBx, hB, hinj, hbel⟩
  obtain ⟨k1, k2⟩ := called_same hr hbel
  have hold : ∀ b X, G.box b = some X → b < S.nx := fun b X hb => by
    rcases Nat.lt_or_ge b S.nx with h1 | h1
    · exact h1
    · rw [(hr.fresh b (hF b h1)).1] at hb; cases hb
  let G2 : Gh := { G with box := fun b => if b < S.nx then G.box b else Bx (b - S.nx) }
  have g2new : ∀ b X, Bx b = some X → G2.box (S.nx + b) = some X := fun b X hb => by
    show (if S.nx + b < S.nx then _ else _) = _
    rw [if_neg (by omega), Nat.add_sub_cancel_left]; exact hb
  have g2old : ∀ b X, G.box b = some X → G2.box b = some X := fun b X hb => by
    show (if b < S.nx then _ else _) = _
    rw [if_pos (hold b X hb)]; exact hb
  have f : Fut G w' G2 w' := Fut.mk' (.refl w') g2old (fun i B v k cap ht => ⟨B, v, k, cap, ht, Nat.le_refl _, fun _ => ⟨rfl, rfl, rfl, rfl⟩⟩) (fun _ => Nat.le_refl _) (fun _ _ _ => rfl) (fun _ _ h => h)
  have oldO : ∀ b X, G.obj b = some X → b < S.nx := fun b X hb => by
    rcases Nat.lt_or_ge b S.nx with h1 | h1
    · exact h1
    · rw [hr.more.ofresh b (hF b h1)] at hb; cases hb
  have oldB : ∀ b cs, (addS S K B).B b = some cs → b < S.nx → S.B b = some cs := fun b cs hb hlt => by simpa [hlt] using hb
  have newB : ∀ b cs, (addS S K B).B b = some cs → ¬ b < S.nx → ∃ b' cs', b = S.nx + b' ∧ B b' = some cs' ∧ cs = cs'.map (SV.shift S.nx) := fun b cs hb hlt => by
    simp only [addS_B, if_neg hlt] at hb
    split at hb
    · simp only [Option.map_eq_some_iff] at hb
      obtain ⟨cs', h1, h2⟩ := hb
      exact ⟨b - S.nx, cs', by omega, h1, h2.symm⟩
    · cases hb
  have oldX : ∀ b X, b < S.nx → (addS S K B).B b ≠ none → G2.box b = some X → X < w.heap.size := fun b X hlt hb hg => by
    obtain ⟨cs, hcs⟩ := Option.ne_none_iff_exists'.1 hb
    have hgb : G.box b = some X := by have := hg; simp only [G2, if_pos hlt] at this; exact this
    obtain ⟨Y, us, T, g1, g2, _⟩ := hr.box b cs (oldB b cs hcs hlt) (hr.boxOf (oldB b cs hcs hlt) hgb)
    have : G2.box b = some Y := g2old b Y g1
    rw [hg] at this; cases this
    exact lt_of_heap g2
  have newX : ∀ b X, ¬ b < S.nx → (addS S K B).B b ≠ none → G2.box b = some X → w.heap.size ≤ X := fun b X hlt hb hg => by
    obtain ⟨cs, hcs⟩ := Option.ne_none_iff_exists'.1 hb
    obtain ⟨b', cs', rfl, h1, h2⟩ := newB b cs hcs hlt
    obtain ⟨Y, us, T, g1, g2, g3, g4, g5, _⟩ := hB b' cs' h1
    have := g2new b' Y g1
    rw [hg] at this; cases this
    exact g5
  refine ⟨u, G2, rfl, hu.shiftTo g2new, ⟨fun k s hk => (k1.env k s hk).fut f, k1.size, k1.few, fun b cs hb ho => ?_, fun b b' X hb hb' e1 e2 => ?_, k1.tip, k1.tinj, k1.tlt, fun i b X v k c hi hb e => ?_, fun b hb => ?_, k1.new, k1.low, k1.below, k1.defers, k1.glob, k1.more.keep f (.refl w') (fun b cs X hb ho => oldB b cs hb (oldO b X ho)) rfl (fun b X ho => if_pos (oldO b X ho)) rfl (fun _ hb => hb.1) rfl⟩, k2.trans f⟩
  · by_cases hlt : b < S.nx
    · obtain ⟨X, us, T, g1, g2, g3, g4, g5, gu0, g6⟩ := k1.box b cs (oldB b cs hb hlt) ho
      exact ⟨X, us, T, g2old b X g1, g2, g3, g4, g5, gu0, fun j hj hj' => ⟨(g6 j hj hj').1, (g6 j hj hj').2.fut f⟩⟩
    · obtain ⟨b', cs', rfl, h1, rfl⟩ := newB b cs hb hlt
      obtain ⟨X, us, T, g1, g2, g3, gu0, g5, g6⟩ := hB b' cs' h1
      refine ⟨X, us, T, g2new b' X g1, g2, by simpa using g3, hr.new X g5, Nat.le_trans hr.below.size g5, gu0, fun j hj hj' => ?_⟩
      have hj2 : j < cs'.length := by simpa using hj
      simp only [List.getElem_map, shift_cell]
      exact ⟨(g6 j hj2 hj').1, (g6 j hj2 hj').2.shiftTo g2new⟩
  · by_cases hlt : b < S.nx
    · by_cases hlt' : b' < S.nx
      · have e3 : G.box b = some X := by have := e1; simp only [G2, if_pos hlt] at this; exact this
        have e4 : G.box b' = some X := by have := e2; simp only [G2, if_pos hlt'] at this; exact this
        have nb : ∀ b, b < S.nx → (addS S K B).B b ≠ none → S.B b ≠ none := fun b hl hn => by simpa [hl] using hn
        exact hr.inj b b' X (nb b hlt hb) (nb b' hlt' hb') e3 e4
      · have := oldX b X hlt hb e1; have := newX b' X hlt' hb' e2; omega
    · by_cases hlt' : b' < S.nx
      · have := oldX b' X hlt' hb' e2; have := newX b X hlt hb e1; omega
      · obtain ⟨cs, hcs⟩ := Option.ne_none_iff_exists'.1 hb
        obtain ⟨cs2, hcs2⟩ := Option.ne_none_iff_exists'.1 hb'
        obtain ⟨c, cs', rfl, h1, _⟩ := newB b cs hcs hlt
        obtain ⟨c', cs2', rfl, h2, _⟩ := newB b' cs2 hcs2 hlt'
        have e3 : Bx c = some X := by have := e1; simp only [G2, if_neg hlt, Nat.add_sub_cancel_left] at this; exact this
        have e4 : Bx c' = some X := by have := e2; simp only [G2, if_neg hlt', Nat.add_sub_cancel_left] at this; exact this
        rw [hinj c c' X (by rw [h1]; simp) (by rw [h2]; simp) e3 e4]
  · by_cases hlt : b < S.nx
    · have e3 : G.box b = some X := by have := e; simp only [G2, if_pos hlt] at this; exact this
      exact hr.tbox i b X v k c hi (by simpa [hlt] using hb) e3
    · have := newX b X hlt hb e
      have := hr.tlt i X v k c hi
      omega
  · obtain ⟨h1, h2⟩ := hr.fresh b hb.1
    refine ⟨?_, h2⟩
    have hnb := hb.2
    simp only [addS_nx] at hnb
    show (if b < S.nx then G.box b else Bx (b - S.nx)) = none
    split
    · exact h1
    · cases hx : Bx (b - S.nx) with
      | none => rfl
      | some X => have := hBx _ _ hx; omega

def frzv (B : Nat → Option (List SV)) : Nat → SV → Option D
  | 0, _ => none
  | k + 1, s => match s with
    | .d (.v x) => some (.v x)
    | .fl [] 0 => some (.ps [] 0)
    | .op b off => match B b with
      | some cs => (mapO (frzv B k) cs).map fun ds => .pp ds off
      | none => none
    | .os b off n => match B b with
      | some cs => (mapO (frzv B k) cs).map fun ds => .ps (ds.drop off) n
      | none => none
    | .sk b n _ => match B b with
      | some cs => (mapO (frzv B k) cs).map fun ds => .ps ds n
      | none => none
    | .ag cs => (mapO (frzv B k) cs).map .agg
    | _ => none
open Classical in
noncomputable def frzV (S : St) (G : Gh) (X : Nat) : Nat := if h : ∃ b cs, S.B b = some cs ∧ G.box b = some X ∧ G.obj b = none then h.choose_spec.choose.length else 0
end
end Go.Sh

/- THE SHADOW, 16: a function whose result is new memory of its own. Over any program. -/
namespace Go.Sh
open Go.RowKit (Below)

inductive Like (T : Nat → Option (Nat × Nat)) (M : List (Nat × Nat × Bool)) : SV → SV → Prop
  | d (x : Value) : Like T M (.d (.v x)) (.d (.v x))
  | fl : Like T M (.fl [] 0) (.fl [] 0)
  | tp {i k n sz : Nat} {cs : List D} (hm : (k, i, true) ∈ M) (hn : 0 < n) (ht : T i = some (n, sz)) : Like T M (.tp i 0 cs n) (.os k 0 n)
  | os {b k off n : Nat} (hm : (k, b, false) ∈ M) : Like T M (.os b off n) (.os k off n)
  | op {b k off : Nat} (hm : (k, b, false) ∈ M) : Like T M (.op b off) (.op k off)
  | sk {b k n sz : Nat} (hm : (k, b, false) ∈ M) : Like T M (.sk b n sz) (.sk k n sz)
  | ag {cs cs' : List SV} (hl : cs'.length = cs.length) (h : ∀ j (h : j < cs.length) (h' : j < cs'.length), Like T M cs[j] cs'[j]) : Like T M (.ag cs) (.ag cs')
  | tu {cs cs' : List SV} (hl : cs'.length = cs.length) (h : ∀ j (h : j < cs.length) (h' : j < cs'.length), Like T M cs[j] cs'[j]) : Like T M (.tu cs) (.tu cs')

theorem Like.cell {T : Nat → Option (Nat × Nat)} {M : List (Nat × Nat × Bool)} {s t : SV} (h : Like T M s t) : t.cell = s.cell := by cases h <;> rfl
theorem nodup_inj {α : Type} {l : List α} (h : l.Nodup) {i j : Nat} (hi : i < l.length) (hj : j < l.length) (e : l[i] = l[j]) : i = j := by
  have hp := List.pairwise_iff_getElem.1 h
  rcases Nat.lt_trichotomy i j with h1 | h1 | h1
  · exact absurd e (hp i j hi hj h1)
  · exact h1
  · exact absurd e.symm (hp j i hj hi h1)

inductive Tip (i : Nat) (cs : List D) (n : Nat) : SV → Prop
  | here : Tip i cs n (.tp i 0 cs n)
  | ag {l : List SV} {j : Nat} (hj : j < l.length) (h : Tip i cs n l[j]) : Tip i cs n (.ag l)
  | tu {l : List SV} {j : Nat} (hj : j < l.length) (h : Tip i cs n l[j]) : Tip i cs n (.tu l)

theorem Tip.vr {G : Gh} {w : World} {i n : Nat} {cs : List D} {s : SV} (h : Tip i cs n s) : ∀ {u : Value}, VR G w s u → ∃ u', VR G w (.tp i 0 cs n) u' := by
  induction h with
  | here => intro u hu; exact ⟨u, hu⟩
  | ag hj h ih =>
    intro u hu
    cases hu with
    | ag hl hk hv => exact ih (hv _ hj (by omega))
  | tu hj h ih =>
    intro u hu
    cases hu with
    | tu hl hv => exact ih (hv _ hj (by omega))

def bxOf (G : Gh) (M : List (Nat × Nat × Bool)) (k : Nat) : Option Nat :=
  match M.find? (fun p => p.1 == k) with
  | some (_, b, false) => G.box b
  | some (_, i, true) => (G.tip i).map (·.1)
  | none => none

structure Fine (M : List (Nat × Nat × Bool)) (K : Nat) : Prop where
  new : (M.map (·.1)).Nodup
  old : (M.map (·.2)).Nodup
  lt : ∀ p ∈ M, p.1 < K

theorem find_mem {M : List (Nat × Nat × Bool)} (hd : (M.map (·.1)).Nodup) {p : Nat × Nat × Bool} (hp : p ∈ M) : M.find? (fun q => q.1 == p.1) = some p := by
  induction M with
  | nil => simp at hp
  | cons q M ih =>
    simp only [List.map_cons, List.nodup_cons] at hd
    rcases List.mem_cons.1 hp with rfl | hp
    · simp
    · have : q.1 ≠ p.1 := fun e => hd.1 (e ▸ List.mem_map.2 ⟨p, hp, rfl⟩)
      rw [List.find?_cons_of_neg (by simpa using this)]
      exact ih hd.2 hp
theorem bx_box {G : Gh} {M : List (Nat × Nat × Bool)} {K k b : Nat} (hf : Fine M K) (h : (k, b, false) ∈ M) : bxOf G M k = G.box b := by
  have := find_mem hf.new h
  unfold bxOf; rw [this]
theorem bx_tip {G : Gh} {M : List (Nat × Nat × Bool)} {K k i : Nat} (hf : Fine M K) (h : (k, i, true) ∈ M) : bxOf G M k = (G.tip i).map (·.1) := by
  have := find_mem hf.new h
  unfold bxOf; rw [this]

section
variable {P : Program} {E : Env} {S : St}
theorem tip_inv {m0 : Nat → Nat} {w0 : World} {G : Gh} {F : Nat → Prop} {a : Act} {w : World} (h : Rel m0 w0 G E S F a w) {i n sz : Nat} {cs : List D} {u : Value} (hn : 0 < n) (hT : S.T i = some (n, sz)) (hu : VR G w (.tp i 0 cs n) u) :
    ∃ X c us T fr, G.tip i = some (X, 0, n, c) ∧ u = .slice (some ⟨X, 0, none⟩) n c ∧ n ≤ c ∧ w.heap[X]? = some (.cells us T fr) ∧ unf fr us.size ∧ w0.heap.size ≤ X ∧ cs.length ≤ us.size ∧ ∀ j (h : j < cs.length) (h' : j < us.size), (cs[j]).cell = true ∧ PV G.mark w cs[j] us[j] := by
  obtain ⟨B, v, us, T, cap, fr, g1, g2, g3, g4, g5, g6, g7, g8, g9⟩ := h.tip i n sz hT
  cases hu with
  | tp hp ht hq he =>
    rename_i Y o c B' v' k' cap'
    rw [g1] at ht
    simp only [Option.some.injEq, Prod.mk.injEq] at ht
    obtain ⟨rfl, rfl, rfl, rfl⟩ := ht
    obtain ⟨e1, e2, e3, sz', e4, e5, e6⟩ := he (by omega)
    subst e1
    obtain ⟨us', hl, hc, hv⟩ := hp.cells'
    have hnc : n ≤ c := by
      obtain ⟨_, _, e, hle⟩ := hp.slice_inv
      cases e; exact hle
    have hv0 : v = 0 := by omega
    subst hv0
    have ho : o = 0 := by have := e4 (by omega); simpa using this
    subst ho
    have hcap : cap = c := by omega
    subst hcap
    have hcell : ∀ j (hj : j < us'.length), us[j]? = some us'[j] := fun j hj => by
      have := (hc j us'[j] (List.getElem?_eq_getElem hj)).2
      rw [Nat.zero_add, cell_of_heap g2] at this
      exact this
    refine ⟨B, cap, us, T, fr, g1, rfl, hnc, g2, g3, g4, ?_, fun j hj hj' => ?_⟩
    · rcases Nat.eq_zero_or_pos cs.length with h0 | h0
      · omega
      · have := hcell (cs.length - 1) (by omega)
        have := (Array.getElem?_eq_some_iff.1 this).1
        omega
    · have h1 := hcell j (by omega)
      have h2 : us[j] = us'[j] := by rw [Array.getElem?_eq_getElem hj'] at h1; exact Option.some.inj h1
      rw [h2]; exact hv j hj (by omega)

theorem Like.vr {m0 : Nat → Nat} {w0 : World} {G : Gh} {F : Nat → Prop} {a : Act} {w : World} (h : Rel m0 w0 G E S F a w) {M : List (Nat × Nat × Bool)} {K : Nat} (hf : Fine M K) {s t : SV} (hl : Like S.T M s t) : ∀ {u : Value}, VR G w s u → VR (ghB (bxOf G M)) w t u := by
  induction hl with
  | d x =>
    intro u hu
    cases hu with
    | d hp => cases hp with
      | v hx => exact .d (.v hx)
  | fl =>
    intro u hu
    cases hu with
    | fl hp hc => cases hp with
      | nil => exact .fl .nil hc
      | pz hs => exact .fl (.pz hs) hc
      | ps us hn hcc hk hv => exact .fl (.ps us hn (fun j hj => by simp at hj) (fun j hj => by simp at hj) (fun j hj => by simp at hj)) hc
  | tp hm hn ht =>
    intro u hu
    obtain ⟨X, c, us, T, fr, g1, rfl, g2, _⟩ := tip_inv h hn ht hu
    exact .os (by show bxOf G M _ = _; rw [bx_tip hf hm, g1]; rfl) g2
  | os hm =>
    intro u hu
    cases hu with
    | os hb hn => exact .os (by show bxOf G M _ = _; rw [bx_box hf hm]; exact hb) hn
  | op hm =>
    intro u hu
    cases hu with
    | op hb => exact .op (by show bxOf G M _ = _; rw [bx_box hf hm]; exact hb)
  | sk hm =>
    intro u hu
    cases hu with
    | sk hb hn hc hr => exact .sk (by show bxOf G M _ = _; rw [bx_box hf hm]; exact hb) hn hc hr
  | ag hl h' ih =>
    intro u hu
    cases hu with
    | ag hl2 hk hv =>
      refine .ag (by omega) (fun j hj => ?_) (fun j hj hj' => ih j (by omega) hj (hv j (by omega) hj'))
      rw [(h' j (by omega) hj).cell]
      exact hk j (by omega)
  | tu hl h' ih =>
    intro u hu
    cases hu with
    | tu hl2 hv => exact .tu (by omega) (fun j hj hj' => ih j (by omega) hj (hv j (by omega) hj'))

structure FEnd (S : St) (s t : SV) (M : List (Nat × Nat × Bool)) (K : Nat) (B : Nat → Option (List SV)) : Prop where
  like : Like S.T M s t
  fine : Fine M K
  B : ∀ k cs, B k = some cs → (∃ b cs0 l, (k, b, false) ∈ M ∧ S.B b = some (cs0 ++ l) ∧ (cs0 = [] → l = []) ∧ cs.length = cs0.length ∧ ∀ j (h : j < cs0.length) (h' : j < cs.length), Like S.T M cs0[j] cs[j]) ∨
    (∃ i n sz ds, (k, i, true) ∈ M ∧ Tip i ds n s ∧ 0 < n ∧ S.T i = some (n, sz) ∧ cs = ds.map .d ∧ ∀ x ∈ ds, ∃ v, x = .v v)

theorem FCall.of {gl : Nat → Option D} {md : List Nat} {f : FuncId} {fn : Func} {c : Code} {args : List D} {r : SV} {K : Nat} {B : Nat → Option (List SV)} (hf : P.funcs[f]? = some fn) (hb : fn.body = some c) (hname : (fn.name == "runtime.NumGoroutine") = false) {n : Nat} (hn : fn.ntmps = n) (hle : args.length ≤ n) (hfew : n ≤ globalsAt)
    (h : CS P c (startE gl (args.map .d)) (startS gl md n) (fun ex E S => (ex = .normal ∨ ex = .ret) ∧ ∃ s M, resS P E S fn.results.toList = some s ∧ FEnd S s r M K B)) : FCall P gl f args r K B := by
  refine ⟨⟨fn, hf, hname, by rw [hb]; rfl⟩, fun m w vals hm hg hl hv => calls_of_wp hf hb ?_⟩
  have hsz : (vals.toArray ++ Array.replicate (fn.ntmps - vals.toArray.size) undef).size = n := by simp; omega
  have hstart := start_slots (gl := gl) (G := ⟨fun _ => none, fun _ => none, m, fun _ => none⟩) (w := w) (ss := args.map .d) (vals := vals) (n := n) (ntmps := n) (by simpa using hl) (by simpa using hle) (fun j hj hj' => by
    have : (args.map SV.d)[j] = .d (args[j]'(by simpa using hj)) := by simp
    rw [this]
    exact .d (hv j (by simpa using hj) hj')) hg.1 (Array.replicate (fn.ntmps - vals.toArray.size) undef)
  refine h m w ⟨fun _ => none, fun _ => none, m, fun _ => none⟩ { tmps := vals.toArray ++ Array.replicate (fn.ntmps - vals.toArray.size) undef, defers := [] } w (fun _ => False) (fun _ hb => hb.elim)
    ⟨hstart, hsz, hfew, fun b cs hb => by simp [startS] at hb, fun b b' B hb => by simp [startS] at hb, fun i k sz hi => by simp [startS] at hi, fun i i' B v k c v' k' c' hi => by simp at hi, fun i B v k c hi => by simp at hi, fun i b B v k c hi => by simp at hi, fun b hb => ⟨rfl, rfl⟩, hm, fun _ _ => rfl, Below.refl _ _, rfl, hg.1, ⟨fun b cs B hb => by simp [startS] at hb, fun b b' B hb => by simp [startS] at hb, fun _ _ => rfl, hg.2⟩⟩ _ ?_
  rintro ex G' E' S' a' w' ⟨hex, s, M, hs, hE⟩ hn' hr' f
  obtain ⟨u, hu, hv'⟩ := resS_ok hr' hs
  have own : ∀ k cs, B k = some cs → OwnB (bxOf G' M) w.heap.size w' k cs := fun k cs hk => by
    rcases hE.B k cs hk with ⟨b, cs0, l, h1, h2, hne, h3, h4⟩ | ⟨i, n, sz, ds, h1, h2, h3, h4, rfl, h6⟩
    · have hno : G'.obj b = none := by
        cases ho : G'.obj b with
        | none => rfl
        | some X =>
          exfalso
          obtain ⟨_, _, _, m4⟩ := hr'.more.obj b _ X h2 ho
          by_cases h0 : cs0 = []
          · rw [h0, hne h0] at m4; cases m4
          · have hl := m4.single h0
            rw [hl, List.append_nil] at m4
            cases m4 with
            | mp es _ _ _ _ _ _ => have := h4 0 (by simp) (by simp at h3; omega); cases this
            | it _ _ => have := h4 0 (by simp) (by simp at h3; omega); cases this
      obtain ⟨X, us, T, g1, g2, g3, g4, g5, gu0, g6⟩ := hr'.box b _ h2 hno
      refine ⟨X, us, T, by rw [bx_box hE.fine h1]; exact g1, g2, by simp at g3; omega, gu0, g5, fun j hj hj' => ?_⟩
      have hg := g6 j (by simp; omega) hj'
      rw [List.getElem_append_left (by omega)] at hg
      have hlk := h4 j (by omega) hj
      refine ⟨?_, hlk.vr hr' hE.fine hg.2⟩
      rw [hlk.cell]
      exact hg.1
    · obtain ⟨u', hu'⟩ := h2.vr hv'
      obtain ⟨X, c, us, T, fr, g1, _, g2, g3, g4, g5, g6, g7⟩ := tip_inv hr' h3 h4 hu'
      refine ⟨X, us, (T, fr), by rw [bx_tip hE.fine h1, g1]; rfl, g3, by simpa using g6, g4, g5, fun j hj hj' => ?_⟩
      have hj2 : j < ds.length := by simpa using hj
      obtain ⟨v, hv⟩ := h6 ds[j] (List.getElem_mem hj2)
      have hg := g7 j hj2 hj'
      simp only [List.getElem_map]
      refine ⟨hg.1, ?_⟩
      rw [hv] at hg ⊢
      cases hg.2 with
      | v hx => exact .d (.v hx)
  have lt : ∀ b X, bxOf G' M b = some X → b < K := fun b X hb => by
    unfold bxOf at hb
    cases hfd : M.find? (fun p => p.1 == b) with
    | none => rw [hfd] at hb; cases hb
    | some p =>
      have h1 := List.mem_of_find?_eq_some hfd
      have h2 := List.find?_some hfd
      have : p.1 = b := by simpa using h2
      rw [← this]; exact hE.fine.lt p h1
  have dif : ∀ k k' o o', (k, o) ∈ M → (k', o') ∈ M → o = o' → k = k' := fun k k' o o' h1 h2 e => by
    subst e
    obtain ⟨i, hi, e1⟩ := List.getElem_of_mem h1
    obtain ⟨j, hj, e2⟩ := List.getElem_of_mem h2
    have hi' : i < (M.map (·.2)).length := by simpa using hi
    have hj' : j < (M.map (·.2)).length := by simpa using hj
    have : (M.map (·.2))[i] = (M.map (·.2))[j] := by simp [e1, e2]
    have hij := nodup_inj hE.fine.old hi' hj' this
    subst hij
    rw [e1] at e2
    exact (Prod.mk.inj e2).1
  have inj : ∀ b b' X, B b ≠ none → B b' ≠ none → bxOf G' M b = some X → bxOf G' M b' = some X → b = b' := fun k k' X hk hk' e1 e2 => by
    obtain ⟨cs, hcs⟩ := Option.ne_none_iff_exists'.1 hk
    obtain ⟨cs', hcs'⟩ := Option.ne_none_iff_exists'.1 hk'
    have kind : ∀ k cs, B k = some cs → (∃ b, (k, b, false) ∈ M ∧ S'.B b ≠ none) ∨ (∃ i, (k, i, true) ∈ M ∧ ∃ p, G'.tip i = some p) := fun k cs hk => by
      rcases hE.B k cs hk with ⟨b, cs0, l, h1, h2, _, _⟩ | ⟨i, n, sz, ds, h1, h2, h3, h4, _⟩
      · exact .inl ⟨b, h1, by rw [h2]; simp⟩
      · obtain ⟨X, v, us, T, cap, fr, g1, _⟩ := hr'.tip i n sz h4
        exact .inr ⟨i, h1, _, g1⟩
    rcases kind k cs hcs with ⟨b, h1, h2⟩ | ⟨i, h1, p, h2⟩ <;> rcases kind k' cs' hcs' with ⟨b', h1', h2'⟩ | ⟨i', h1', p', h2'⟩
    · rw [bx_box hE.fine h1] at e1; rw [bx_box hE.fine h1'] at e2
      have := hr'.inj b b' X h2 h2' e1 e2
      exact dif _ _ _ _ h1 h1' (by rw [this])
    · rw [bx_box hE.fine h1] at e1; rw [bx_tip hE.fine h1', h2'] at e2
      obtain ⟨X', v, k0, c⟩ := p'
      simp only [Option.map_some, Option.some.injEq] at e2
      subst e2
      exact (hr'.tbox i' b _ _ _ _ h2' h2 e1).elim
    · rw [bx_tip hE.fine h1, h2] at e1; rw [bx_box hE.fine h1'] at e2
      obtain ⟨X', v, k0, c⟩ := p
      simp only [Option.map_some, Option.some.injEq] at e1
      subst e1
      exact (hr'.tbox i b' _ _ _ _ h2 h2' e2).elim
    · rw [bx_tip hE.fine h1, h2] at e1; rw [bx_tip hE.fine h1', h2'] at e2
      obtain ⟨X1, v1, k1, c1⟩ := p
      obtain ⟨X2, v2, k2, c2⟩ := p'
      simp only [Option.map_some, Option.some.injEq] at e1 e2
      subst e1; subst e2
      have := hr'.tinj i i' _ _ _ _ _ _ _ h2 h2'
      exact dif _ _ _ _ h1 h1' (by rw [this])
  have fin : a'.defers = [] ∧ ∃ v, (results fn a'.tmps).run P w' = .ok v w' ∧ (∃ u Bx, Ending.returned v = Ending.returned u ∧ VR (ghB Bx) w' r u ∧ (∀ b X, Bx b = some X → b < K) ∧ (∀ b cs, B b = some cs → OwnB Bx w.heap.size w' b cs) ∧
      (∀ b b' X, B b ≠ none → B b' ≠ none → Bx b = some X → Bx b' = some X → b = b') ∧ Below w.heap.size w w') :=
    ⟨hr'.defers, u, hu, u, bxOf G' M, rfl, hE.like.vr hr' hE.fine hv', lt, own, inj, hr'.below⟩
  rcases hex with rfl | rfl
  · exact fin
  · exact fin
def FinF (P : Program) (rs : List ResultVar) (r : SV) (K : Nat) (B : Nat → Option (List SV)) : Exit → Env → St → Prop := fun ex E S => (ex = .normal ∨ ex = .ret) ∧ ∃ s M, resS P E S rs = some s ∧ FEnd S s r M K B
@[simp] theorem FinF_ret {rs : List ResultVar} {r : SV} {K : Nat} {B : Nat → Option (List SV)} : FinF P rs r K B .ret E S = ∃ s M, resS P E S rs = some s ∧ FEnd S s r M K B := by
  simp only [FinF, reduceCtorEq, or_true, true_and]
theorem FCall.by_ {gl : Nat → Option D} {md : List Nat} {f : FuncId} {fn : Func} {c : Code} {args : List D} {r : SV} {K : Nat} {B : Nat → Option (List SV)} (hf : P.funcs[f]? = some fn) (hb : fn.body = some c) (hname : (fn.name == "runtime.NumGoroutine") = false) {n : Nat} (hn : fn.ntmps = n) (hle : args.length ≤ n) (hfew : n ≤ globalsAt) {rs : List ResultVar} (hrs : fn.results.toList = rs)
    (h : @VCt true P ⟨c⟩ (startE gl (args.map .d)) (startS gl md n) (FinF P rs r K B)) : FCall P gl f args r K B := FCall.of (md := md) hf hb hname hn hle hfew (by rw [hrs]; exact VC.sound h)
end
end Go.Sh

/- THE SHADOW, 14: arguments that are read as data are data of the shadow. Over any program. -/
namespace Go.Sh
open Go.RowKit (Below)
open Go.ChangeShapes Go.WideShapes Go.RowKit

def markAll (w : World) (B : Nat) : Nat := match w.heap[B]? with | some (.cells us _ _) => us.size | _ => 0
theorem markAll_new (w : World) : ∀ B, w.heap.size ≤ B → markAll w B = 0 := fun B hB => by
  unfold markAll
  rw [Array.getElem?_eq_none hB]
theorem markAll_cell {w : World} {a : Addr} {u : Value} (h : w.cell? a = some u) : a.spot = none ∧ a.off < markAll w a.block := by
  unfold World.cell? at h
  unfold markAll
  split at h
  · rename_i c T fr hb
    rw [hb]
    split at h
    · cases h
    · rename_i hs
      exact ⟨by simpa using hs, (Array.getElem?_eq_some_iff.1 h).1⟩
  · cases h

section
variable {P : Program}
def Opens {α : Type} (P : Program) (n : Nat) (t : TypeId) (k : Nat) (e : α → List D) (ok : α → Prop) : Prop :=
  ∀ (H : Type) (enc : TypeId × Value → H) (w : World) (cs : List Value) (x : DataW H × List MemPlace), DataW.trod enc P w 0 (fun _ => true) true n t cs = some x → (∀ m ∈ x.1.weights P t, m ≤ reachBytes) →
    cs.length = k ∧ ∃ a : α, ok a ∧ (e a).length = k ∧ ∀ j (h : j < (e a).length) (h' : j < cs.length), (e a)[j].cell = true ∧ PV (markAll w) w (e a)[j] cs[j]

theorem Opens.zero {α : Type} {t : TypeId} {k : Nat} {e : α → List D} {ok : α → Prop} : Opens P 0 t k e ok := fun H enc w cs x h => by simp [DataW.trod] at h
theorem Opens.mono {α : Type} {n : Nat} {t : TypeId} {k : Nat} {e : α → List D} {ok ok' : α → Prop} (h : Opens P n t k e ok) (hm : ∀ a, ok a → ok' a) : Opens P n t k e ok' := fun H enc w cs x hx hw => by
  obtain ⟨h1, a, h2, h3⟩ := h H enc w cs x hx hw
  exact ⟨h1, a, hm a h2, h3⟩
theorem one_cell {α : Type} {e : α → D} {a : α} {u : Value} {w : World} (hc : (e a).cell = true) (h : PV (markAll w) w (e a) u) : ∀ j (h : j < [e a].length) (h' : j < [u].length), ([e a][j]).cell = true ∧ PV (markAll w) w [e a][j] [u][j] := by
  intro j hj hj'
  have : j = 0 := by simpa using hj
  subst this
  exact ⟨hc, h⟩
theorem Opens.int {t : TypeId} {k : IntKind} (ht : intKindOf P t = some k) (n : Nat) : Opens P n t 1 (fun i : Int => [.v (.int k i)]) (fun i => k.min ≤ i ∧ i ≤ k.max) := fun H enc w cs x h hw => by
  obtain ⟨i, rfl, rfl, hwf⟩ := DataW.trod_int (intKindOf_ok ht) h
  refine ⟨rfl, i, by simpa [Lit.wf] using hwf, rfl, one_cell (e := fun i : Int => .v (.int k i)) rfl (.v rfl)⟩
theorem Opens.bool {t : TypeId} (ht : P.underlying t = some .bool) (n : Nat) : Opens P n t 1 (fun b : Bool => [.v (.bool b)]) (fun _ => True) := fun H enc w cs x h hw => by
  obtain ⟨b, rfl, rfl⟩ := DataW.trod_bool ht h
  exact ⟨rfl, b, trivial, rfl, one_cell (e := fun b : Bool => .v (.bool b)) rfl (.v rfl)⟩
theorem Opens.string {t : TypeId} (ht : P.underlying t = some .string) (n : Nat) : Opens P n t 1 (fun s : ByteArray => [.v (.string s)]) (fun s => s.size ≤ 140737488351232) := fun H enc w cs x h hw => by
  obtain ⟨s, rfl, rfl, _⟩ := DataW.trod_string ht h
  refine ⟨rfl, s, ?_, rfl, one_cell (e := fun s : ByteArray => .v (.string s)) rfl (.v rfl)⟩
  have := hw s.data.toList.length (by simp [DataW.weights])
  unfold reachBytes at this
  simpa using this

theorem cells?_get {w : World} {a : Addr} {n : Nat} {cs : List Value} (h : w.cells? 0 a n = some cs) : cs.length = n ∧ ∀ j (hj : j < cs.length), w.cell? (a.add j) = some cs[j] := by
  unfold World.cells? at h
  rw [if_pos (Nat.zero_le _)] at h
  have h1 := mapM_some_length h
  simp only [List.length_range] at h1
  refine ⟨h1, fun j hj => ?_⟩
  have := mapM_some_get h j j (List.getElem?_range (by omega))
  rw [this, List.getElem?_eq_getElem hj]

theorem list_choose {α : Type} {n : Nat} {p : Nat → α → Prop} (h : ∀ i, i < n → ∃ a, p i a) : ∃ l : List α, l.length = n ∧ ∀ i (hi : i < l.length), p i l[i] := by
  induction n with
  | zero => exact ⟨[], rfl, fun i hi => by simp at hi⟩
  | succ n ih =>
    obtain ⟨l, hl, hp⟩ := ih (fun i hi => h i (by omega))
    obtain ⟨a, ha⟩ := h n (by omega)
    refine ⟨l ++ [a], by simp [hl], fun i hi => ?_⟩
    rcases Nat.lt_or_ge i l.length with h1 | h1
    · rw [List.getElem_append_left h1]; exact hp i h1
    · have : i = n := by simp at hi; omega
      subst this
      have e : (l ++ [a])[i] = a := by rw [List.getElem_append_right (by omega)]; simp
      rw [e]; exact ha

theorem weightsAll_mem {H : Type} {t : TypeId} : ∀ {ds : List (DataW H)} {d : DataW H} {m : Nat}, d ∈ ds → m ∈ d.weights P t → m ∈ DataW.weightsAll P t ds
  | x :: r, d, m, hd, hm => by
    simp only [DataW.weightsAll, List.mem_append]
    rcases List.mem_cons.1 hd with rfl | hd
    · exact .inl hm
    · exact .inr (weightsAll_mem hd hm)

theorem flat_at {α : Type} {e : α → List D} {k : Nat} : ∀ {l : List α} (h : ∀ a ∈ l, (e a).length = k) {j : Nat} (hj : j < (l.flatMap e).length), ∃ (i : Nat) (q : Nat) (hi : i < l.length) (hq : q < (e l[i]).length), j = i * k + q ∧ (l.flatMap e)[j] = (e l[i])[q]
  | [], h, j, hj => by simp at hj
  | a :: r, h, j, hj => by
    have ha := h a List.mem_cons_self
    rcases Nat.lt_or_ge j k with h1 | h1
    · refine ⟨0, j, by simp, by simpa [ha] using h1, by simp, ?_⟩
      simp only [List.flatMap_cons]
      rw [List.getElem_append_left (by omega)]
      rfl
    · have hj2 : j - k < (r.flatMap e).length := by simp only [List.flatMap_cons, List.length_append] at hj; omega
      obtain ⟨i, q, hi, hq, e1, e2⟩ := flat_at (fun a ha => h a (List.mem_cons_of_mem _ ha)) hj2
      refine ⟨i + 1, q, by simpa using hi, by simpa using hq, by rw [Nat.add_mul]; omega, ?_⟩
      simp only [List.flatMap_cons]
      rw [List.getElem_append_right (by omega)]
      simp only [ha, e2, List.getElem_cons_succ]

theorem Opens.slice {α : Type} {n : Nat} {t s : TypeId} {k by_ : Nat} {e : α → List D} {ok : α → Prop} (ht : P.underlying t = some (.slice s)) (hs : P.cellsOf s = k) (hk : 0 < k) (hby : P.bytesOf s = by_) (h : Opens P n s k e ok) :
    Opens P (n + 1) t 1 (fun l : List α => [.ps (l.flatMap e) l.length]) (fun l => l.length * by_ ≤ 140737488351232 ∧ ∀ a ∈ l, ok a) := fun H enc w cs x hx hw => by
  rcases DataW.trod_slice ht hx with ⟨rfl, rfl⟩ | ⟨a, len, cap, elems, rest, n', hn, rfl, rfl, hb, hl, hm, hlen, hel, hsp, _⟩
  · exact ⟨rfl, [], ⟨by simp, by simp⟩, rfl, one_cell (e := fun l : List α => .ps (l.flatMap e) l.length) rfl .nil⟩
  · obtain rfl : n = n' := by omega
    obtain ⟨hrl, hrest⟩ := hsp rfl
    have hw1 : (elems.length + rest.length) * by_ ≤ reachBytes := hw _ (by simp only [DataW.weights, ht, List.mem_cons, List.length_map, hby, true_or])
    have each : ∀ i, i < len → ∃ c : α, ok c ∧ (e c).length = k ∧ ∃ us : List Value, us.length = k ∧ (∀ j (hj : j < us.length), w.cell? ((a.add (i * k)).add j) = some us[j]) ∧ ∀ j (h : j < (e c).length) (h' : j < us.length), (e c)[j].cell = true ∧ PV (markAll w) w (e c)[j] us[j] := by
      intro i hi
      have h1 := hel i hi
      rw [hs, List.getElem?_eq_getElem (by omega), Option.bind_eq_some_iff] at h1
      obtain ⟨us, hus, htr⟩ := h1
      obtain ⟨g1, g2⟩ := cells?_get hus
      obtain ⟨q1, c, q2, q3, q4⟩ := h H enc w us _ htr (fun m hm => hw m (by
        simp only [DataW.weights, ht, List.mem_cons, List.mem_append]
        exact .inr (.inl (weightsAll_mem (List.mem_map.2 ⟨elems[i]'(by omega), List.getElem_mem _, rfl⟩) hm))))
      exact ⟨c, q2, q3, us, q1, g2, q4⟩
    obtain ⟨l, hll, hp⟩ := list_choose each
    refine ⟨rfl, l, ⟨?_, ?_⟩, rfl, one_cell (e := fun l : List α => .ps (l.flatMap e) l.length) rfl ?_⟩
    · unfold reachBytes at hw1
      refine Nat.le_trans (Nat.mul_le_mul_right _ ?_) hw1
      omega
    · intro c hc
      obtain ⟨i, hi, rfl⟩ := List.getElem_of_mem hc
      exact (hp i hi).1
    · rw [← hll]
      have hek : ∀ c ∈ l, (e c).length = k := fun c hc => by
        obtain ⟨i, hi, rfl⟩ := List.getElem_of_mem hc
        exact (hp i hi).2.1
      by_cases hspot : a.spot = none
      · obtain ⟨B, o, sp⟩ := a
        simp only at hspot
        subst hspot
        have get : ∀ j (hj : j < (l.flatMap e).length), ∃ u, w.cell? ⟨B, o + j, none⟩ = some u ∧ ((l.flatMap e)[j]).cell = true ∧ PV (markAll w) w (l.flatMap e)[j] u := by
          intro j hj
          obtain ⟨i, q, hi, hq, e1, e2⟩ := flat_at hek hj
          obtain ⟨_, g1, us, g2, g3, g4⟩ := hp i hi
          have hq2 : q < us.length := by omega
          refine ⟨us[q], ?_, by rw [e2]; exact (g4 q hq hq2).1, by rw [e2]; exact (g4 q hq hq2).2⟩
          have := g3 q hq2
          rw [add_off, add_off] at this
          rw [e1, ← Nat.add_assoc]; exact this
        refine .ps (fun j => (w.cell? ⟨B, o + j, none⟩).getD undef) (by omega) (fun j hj => ?_) (fun j hj => ?_) (fun j hj => ?_)
        · obtain ⟨u, h1, h2, h3⟩ := get j hj
          exact ⟨(markAll_cell h1).2, by rw [h1]; rfl⟩
        · obtain ⟨u, h1, h2, h3⟩ := get j hj; exact h2
        · obtain ⟨u, h1, h2, h3⟩ := get j hj
          rw [h1]; exact h3
      · have hcap : cap = 0 := by
          rcases Nat.eq_zero_or_pos cap with h0 | h0
          · exact h0
          · exfalso
            have : ∃ cs', w.cells? 0 (a.add (0 * k)) k = some cs' := by
              rcases Nat.eq_zero_or_pos len with h1 | h1
              · have := hrest 0 (by omega)
                rw [hs, h1, Nat.zero_add, List.getElem?_eq_getElem (by omega), Option.bind_eq_some_iff] at this
                obtain ⟨us, hus, _⟩ := this
                exact ⟨us, hus⟩
              · have := hel 0 h1
                rw [hs, List.getElem?_eq_getElem (by omega), Option.bind_eq_some_iff] at this
                obtain ⟨us, hus, _⟩ := this
                exact ⟨us, hus⟩
            obtain ⟨cs', hcs'⟩ := this
            obtain ⟨g1, g2⟩ := cells?_get hcs'
            have := (markAll_cell (g2 0 (by omega))).1
            rw [Nat.zero_mul] at this
            simp [Addr.add] at this
            exact hspot this
        have h0 : l = [] := List.length_eq_zero_iff.1 (by omega)
        subst h0
        subst hcap
        exact .pz hspot

theorem drop_take_at {α : Type} {l : List α} {o k j : Nat} (hj : j < ((l.drop o).take k).length) : ((l.drop o).take k)[j] = l[o + j]'(by simp at hj; omega) := by simp

theorem fieldTy_ok {t s : TypeId} {i off : Nat} (h : fieldTy P t i = some (s, off)) : ∃ fs f, P.underlying t = some (.struct fs) ∧ fs[i]? = some f ∧ f.type = s ∧ f.offset = off := by
  unfold fieldTy at h
  split at h
  · rename_i fs hu
    split at h
    · rename_i f hf
      simp only [Option.some.injEq, Prod.mk.injEq] at h
      exact ⟨fs, f, hu, hf, h.1, h.2⟩
    · cases h
  · cases h
def isStruct (P : Program) (t : TypeId) : Bool := match P.underlying t with | some (.struct _) => true | _ => false
theorem isStruct_ok {t : TypeId} (h : isStruct P t = true) : ∃ fs, P.underlying t = some (.struct fs) := by unfold isStruct at h; split at h <;> simp_all
def OpensFrom {α : Type} (P : Program) (n : Nat) (t : TypeId) (i off k : Nat) (e : α → List D) (ok : α → Prop) : Prop :=
  ∀ (H : Type) (enc : TypeId × Value → H) (w : World) (cs : List Value) (x : DataW H × List MemPlace), DataW.trod enc P w 0 (fun _ => true) true (n + 1) t cs = some x → (∀ m ∈ x.1.weights P t, m ≤ reachBytes) →
    ∃ a : α, ok a ∧ (e a).length = k ∧ ∀ j (h : j < (e a).length) (h' : off + j < cs.length), (e a)[j].cell = true ∧ PV (markAll w) w (e a)[j] cs[off + j]
theorem OpensFrom.nil {n i off : Nat} {t : TypeId} : OpensFrom P n t i off 0 (fun _ : Unit => []) (fun _ => True) := fun H enc w cs x _ _ => ⟨(), trivial, rfl, fun j hj => by simp at hj⟩
theorem OpensFrom.cons {α β : Type} {n : Nat} {t s : TypeId} {k k' off i : Nat} {e : α → List D} {ok : α → Prop} {e' : β → List D} {ok' : β → Prop} (hf : fieldTy P t i = some (s, off)) (hs : P.cellsOf s = k) (h : Opens P n s k e ok)
    (h' : OpensFrom P n t (i + 1) (off + k) k' e' ok') : OpensFrom P n t i off (k + k') (fun p : α × β => e p.1 ++ e' p.2) (fun p => ok p.1 ∧ ok' p.2) := fun H enc w cs x hx hw => by
  obtain ⟨fs, f, ht, hf, hft, hfo⟩ := fieldTy_ok hf
  obtain ⟨xs, n', hn, hx1, hl, hxl, hel⟩ := DataW.trod_struct ht hx
  obtain rfl : n = n' := by omega
  have h1 := hel i f hf
  have hi : i < xs.length := by rw [hxl]; exact (Array.getElem?_eq_some_iff.1 hf).1
  rw [hft, hfo, hs, List.getElem?_eq_getElem hi] at h1
  obtain ⟨g1, a, g2, g3, g4⟩ := h H enc w _ _ h1 (fun m hm => hw m (by
    rw [hx1]
    simp only [DataW.weights, ht]
    refine DataW.weights_mem_each (j := i) (t := s) (d := (xs[i]).1) ?_ ?_ m hm
    · rw [List.getElem?_map, Array.getElem?_toList, hf]; simp [hft]
    · rw [List.getElem?_map, List.getElem?_eq_getElem hi]; rfl))
  obtain ⟨b, r1, r2, r3⟩ := h' H enc w cs x hx hw
  refine ⟨(a, b), ⟨g2, r1⟩, by simp [g3, r2], fun j hj hj' => ?_⟩
  rcases Nat.lt_or_ge j k with hj1 | hj1
  · have hj2 : j < ((cs.drop off).take k).length := by rw [g1]; omega
    have := g4 j (by omega) hj2
    rw [drop_take_at hj2] at this
    simp only
    rw [List.getElem_append_left (by omega)]
    exact this
  · have := r3 (j - k) (by simp at hj; omega) (by omega)
    simp only
    rw [List.getElem_append_right (by omega)]
    have e1 : off + k + (j - k) = off + j := by omega
    simp only [e1, g3] at this ⊢
    exact this
theorem OpensFrom.struct {α : Type} {n : Nat} {t : TypeId} {k : Nat} {e : α → List D} {ok : α → Prop} (ht : isStruct P t = true) (hk : P.cellsOf t = k) (h : OpensFrom P n t 0 0 k e ok) : Opens P (n + 1) t k e ok := fun H enc w cs x hx hw => by
  obtain ⟨fs, ht⟩ := isStruct_ok ht
  obtain ⟨xs, n', hn, hx1, hl, hxl, hel⟩ := DataW.trod_struct ht hx
  obtain ⟨a, h1, h2, h3⟩ := h H enc w cs x hx hw
  refine ⟨by rw [hl, hk], a, h1, h2, fun j hj hj' => ?_⟩
  have := h3 j hj (by omega)
  simp only [Nat.zero_add] at this
  exact this
theorem Opens.map {α β : Type} {n : Nat} {t : TypeId} {k : Nat} {e : α → List D} {ok : α → Prop} {e' : β → List D} {ok' : β → Prop} (g : α → β) (he : ∀ a, ok a → e' (g a) = e a) (hok : ∀ a, ok a → ok' (g a)) (h : Opens P n t k e ok) : Opens P n t k e' ok' := fun H enc w cs x hx hw => by
  obtain ⟨h1, a, h2, h3, h4⟩ := h H enc w cs x hx hw
  exact ⟨h1, g a, hok a h2, by rw [he a h2]; exact h3, by simp only [he a h2]; exact h4⟩
theorem Opens.le {α : Type} {n m : Nat} {t : TypeId} {k : Nat} {e : α → List D} {ok : α → Prop} (h : Opens P m t k e ok) (hnm : n ≤ m) : Opens P n t k e ok := fun H enc w cs x hx hw =>
  h H enc w cs x (DataW.trod_le hnm hx) hw

theorem Opens.arg1 {α : Type} {t : TypeId} {e : α → D} {ok : α → Prop} (h : ∀ n, Opens P n t 1 (fun a => [e a]) ok) {H : Type} {enc : TypeId × Value → H} {w : World} {v : Value} {d : DataW H} {p : List MemPlace} (hv : DataW.Trod enc P w 0 (fun _ => true) true t v d p) (h1 : v.oneCell' = true) (hw : ∀ m ∈ d.weights P t, m ≤ reachBytes) :
    ∃ a, ok a ∧ PV (markAll w) w (e a) v := by
  obtain ⟨n, hn⟩ := hv
  obtain ⟨g1, a, g2, g3, g4⟩ := h n H enc w _ _ hn hw
  have hc : v.cells.toList = [v] := by cases v <;> simp_all [Value.cells, Value.oneCell']
  refine ⟨a, g2, ?_⟩
  have := (g4 0 (by simp) (by rw [hc]; simp)).2
  simpa [hc] using this
theorem Opens.argN {α : Type} {t : TypeId} {k : Nat} {e : α → List D} {ok : α → Prop} (h : ∀ n, Opens P n t k e ok) {H : Type} {enc : TypeId × Value → H} {w : World} {us : Array Value} {d : DataW H} {p : List MemPlace} (hv : DataW.Trod enc P w 0 (fun _ => true) true t (.agg us) d p) (hw : ∀ m ∈ d.weights P t, m ≤ reachBytes) :
    ∃ a, ok a ∧ PV (markAll w) w (.agg (e a)) (.agg us) := by
  obtain ⟨n, hn⟩ := hv
  obtain ⟨g1, a, g2, g3, g4⟩ := h n H enc w _ _ hn hw
  refine ⟨a, g2, ?_⟩
  have hl : us.toList.length = (e a).length := by rw [g3]; exact g1
  have := PV.agg (m := markAll w) (w := w) (cs := e a) (us := us.toList) hl (fun j hj => (g4 j hj (by simp only [Value.cells]; omega)).1) (fun j hj hj' => (g4 j hj hj').2)
  simpa using this
def oneTy (P : Program) (t : TypeId) : Bool := match P.underlying t with | some (.struct _) => false | some (.array _ _) => false | _ => true
theorem okWide_one {t : TypeId} (ht : oneTy P t = true) {W : World} {r : Reach} {base : Nat} {v : Value} (h : Value.okWide P W r base t v) : v.oneCell' = true := by
  unfold oneTy at ht
  unfold Value.okWide at h
  generalize hd : P.underlying t = d at ht h
  have hc : Cell.okWide P W r base t v := by
    split at h
    · simp at ht
    · simp at ht
    · exact h
  unfold Cell.okWide at hc
  rw [hd] at hc
  cases v with
  | agg cs => split at hc <;> simp_all [Cell.ok]
  | tuple cs => split at hc <;> simp_all [Cell.ok]
  | _ => rfl
end
end Go.Sh
