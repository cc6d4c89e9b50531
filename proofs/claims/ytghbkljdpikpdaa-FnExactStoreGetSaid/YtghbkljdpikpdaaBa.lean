/- What all that follows uses: data of small kinds, rows, what a call leaves. -/
import Derived.Test.YtghbkljdpikpdaaShFacts
set_option linter.unusedVariables false
set_option linter.unusedSimpArgs false
set_option maxRecDepth 100000
namespace Go.Proofs.Ytghbkljdpikpdaa
open Go.Sh
variable {gl : Nat → Option D}
/-- The sign that pointers may be compared. -/
abbrev clGl : Nat → Option D := fun g => if g = cleanAt then some (.pp [] 0) else none
abbrev dI (n : Int) : D := .v (.int .i64 n)
abbrev dB (b : Bool) : D := .v (.bool b)
abbrev dS (s : ByteArray) : D := .v (.string s)
abbrev dY (n : Int) : D := .v (.int .u8 n)
theorem wrap64 {n : Int} (h : -9223372036854775808 ≤ n) (h' : n ≤ 9223372036854775807) : IntKind.i64.wrap n = n := by rw [IntKind.wrap_i64]; omega
@[simp] theorem wrap_lit (n : Int) (h : -9223372036854775808 ≤ n) (h' : n ≤ 9223372036854775807) : IntKind.i64.wrap n = n := wrap64 h h'
@[simp] theorem bits_u32 : IntKind.u32.bits = 32 := (rfl)
@[simp] theorem bits_u64 : IntKind.u64.bits = 64 := (rfl)
@[simp] theorem bits_u8 : IntKind.u8.bits = 8 := (rfl)
@[simp] theorem bits_i64 : IntKind.i64.bits = 64 := (rfl)
/-- All numbers below n. -/
def allTo (p : Nat → Bool) (n : Nat) : Bool := (List.range n).all p
theorem allTo_true {p : Nat → Bool} {n : Nat} (h : ∀ j, j < n → p j = true) : allTo p n = true := List.all_eq_true.2 fun j hj => h j (List.mem_range.1 hj)
theorem allTo_false {p : Nat → Bool} {n i : Nat} (hi : i < n) (h : p i = false) : allTo p n = false := by
  cases hb : allTo p n with
  | false => rfl
  | true => have := List.all_eq_true.1 hb i (List.mem_range.2 hi); rw [h] at this; cases this
theorem allTo_iff {p : Nat → Bool} {n : Nat} : allTo p n = true ↔ ∀ j, j < n → p j = true :=
  ⟨fun h j hj => List.all_eq_true.1 h j (List.mem_range.2 hj), allTo_true⟩
theorem next_all {p : Nat → Bool} {i : Nat} (hp : ∀ j, j < i → p j = true) (h : p i = true) : ∀ j, j < i + 1 → p j = true := fun j hj => by
  rcases Nat.lt_or_ge j i with h1 | h1
  · exact hp j h1
  · have : j = i := by omega
    subst this; exact h

abbrev namesD (l : List ByteArray) : D := .ps (l.map dS) l.length
def NamesOk (l : List ByteArray) : Prop := l.length ≤ 4611686018427387903 ∧ ∀ s ∈ l, s.size ≤ 4611686018427387904

/-- The measure of a loop that counts up in a slot. -/
def upTo (k n : Nat) (E : Env) (S : St) : Nat := match E k with | some (.d (.v (.int _ i))) => n - i.toNat | _ => 0
theorem upTo_lt {k n i : Nat} {E E' : Env} {S S' : St} (h : E k = some (.d (dI i))) (h' : E' k = some (.d (dI ((i : Int) + 1)))) (hi : i < n) : upTo k n E' S' < upTo k n E S := by
  unfold upTo
  rw [h, h']
  simp only
  omega

/-! ### rows -/
section
variable {α β : Type} {enc : α → List β} {k : Nat}
theorem row_len (h : ∀ x, (enc x).length = k) : ∀ l : List α, (l.flatMap enc).length = l.length * k
  | [] => by simp
  | x :: r => by rw [List.flatMap_cons, List.length_append, h x, row_len h r, List.length_cons, Nat.add_mul]; omega
theorem row_drop (h : ∀ x, (enc x).length = k) : ∀ (l : List α) (i : Nat), (l.flatMap enc).drop (i * k) = (l.drop i).flatMap enc
  | [], i => by simp
  | x :: r, 0 => by simp
  | x :: r, i + 1 => by
    rw [List.flatMap_cons, List.drop_succ_cons, ← row_drop h r i, Nat.add_mul, Nat.one_mul, List.drop_append, h x]
    rw [List.drop_eq_nil_of_le (by rw [h x]; omega), List.nil_append]
    congr 1; omega
theorem row_take (h : ∀ x, (enc x).length = k) : ∀ (l : List α) (i : Nat), (l.flatMap enc).take (i * k) = (l.take i).flatMap enc
  | [], i => by simp
  | x :: r, 0 => by simp
  | x :: r, i + 1 => by
    rw [List.flatMap_cons, List.take_succ_cons, List.flatMap_cons, ← row_take h r i, Nat.add_mul, Nat.one_mul, List.take_append, h x]
    rw [List.take_of_length_le (by rw [h x]; omega)]
    congr 2; omega
/-- The cells of an element. -/
theorem row_at (h : ∀ x, (enc x).length = k) (l : List α) (i : Nat) (hi : i < l.length) : ((l.flatMap enc).drop (i * k)).take k = enc l[i] := by
  rw [row_drop h, List.drop_eq_getElem_cons hi, List.flatMap_cons, List.take_append, h]
  rw [List.take_of_length_le (by rw [h]; omega)]
  simp

/-- The first i of a row are there, the others are still what they were. -/
def filled (enc : α → List β) (z : List β) (l : List α) (i : Nat) : List β := (l.take i).flatMap enc ++ (List.replicate (l.length - i) z).flatten
variable {z : List β}
theorem zeros_len (hz : z.length = k) (n : Nat) : ((List.replicate n z).flatten).length = n * k := by
  simp [List.length_flatten, hz]
theorem filled_len (h : ∀ x, (enc x).length = k) (hz : z.length = k) (l : List α) {i : Nat} (hi : i ≤ l.length) : (filled enc z l i).length = l.length * k := by
  unfold filled
  rw [List.length_append, row_len h, zeros_len hz, List.length_take, ← Nat.add_mul]
  congr 1; omega
theorem filled_next (h : ∀ x, (enc x).length = k) (hz : z.length = k) (l : List α) {i : Nat} (hi : i < l.length) : (filled enc z l i).take (i * k) ++ enc l[i] ++ (filled enc z l i).drop (i * k + k) = filled enc z l (i + 1) := by
  have e1 : ((l.take i).flatMap enc).length = i * k := by rw [row_len h, List.length_take]; congr 1; omega
  unfold filled
  rw [List.take_append, List.drop_append, e1]
  rw [List.take_of_length_le (by omega), Nat.sub_self, List.take_zero, List.append_nil, List.drop_eq_nil_of_le (by omega), List.nil_append]
  have e2 : i * k + k - i * k = k := by omega
  have e3 : l.length - i = (l.length - (i + 1)) + 1 := by omega
  rw [e2, e3, List.replicate_succ, List.flatten_cons, List.drop_append, hz, Nat.sub_self, List.drop_eq_nil_of_le (by omega), List.nil_append]
  rw [List.take_succ_eq_append_getElem hi, List.flatMap_append]
  simp
theorem filled_all (l : List α) : filled enc z l l.length = l.flatMap enc := by
  unfold filled; simp
theorem filled_none (l : List α) : filled enc z l 0 = (List.replicate l.length z).flatten := by
  unfold filled; simp
/-- A new row's cells. -/
theorem made_row (d : β) (hz : z.length = k) : ∀ n : Nat, ((List.range (n * k)).map fun j => z.getD (j % k) d) = (List.replicate n z).flatten
  | 0 => by simp
  | n + 1 => by
    have ih := made_row d hz n
    rw [List.replicate_succ', List.flatten_append, ← ih, Nat.add_mul, Nat.one_mul, List.range_add, List.map_append]
    congr 1
    simp only [List.map_map, List.flatten_cons, List.flatten_nil, List.append_nil]
    apply List.ext_getElem
    · simp [hz]
    · intro j h1 h2
      simp only [List.length_map, List.length_range] at h1
      simp only [List.getElem_map, List.getElem_range, Function.comp_apply]
      rw [Nat.mul_comm n k, Nat.mul_add_mod, Nat.mod_eq_of_lt h1, List.getD_eq_getElem?_getD, List.getElem?_eq_getElem (by omega)]
      rfl
end
theorem map_flat {α β : Type} (f : α → β) (l : List α) : l.map f = l.flatMap fun x => [f x] := by
  induction l with
  | nil => rfl
  | cons x r ih => simp [ih]

theorem madeS_row (zs : List SV) (n : Nat) : madeS zs zs.length n = (List.replicate n zs).flatten := made_row _ rfl n

@[simp] theorem madeS_one (z : SV) (n : Nat) : madeS [z] 1 n = List.replicate n z := by
  have := madeS_row [z] n
  simpa using this

abbrev sS (s : ByteArray) : List SV := [.d (dS s)]
theorem sS_row (l : List ByteArray) : l.flatMap sS = (l.map dS).map .d := by
  rw [List.map_map, map_flat]; rfl
@[simp] theorem drop_made {α : Type} (f : Nat → α) (n : Nat) : ((List.range n).map f).drop n = [] := by simp
/-- What a call leaves of the variables. -/
def lookN {α : Type} : List (Nat × α) → Nat → Option α
  | [], _ => none
  | (k, v) :: r, x => if x = k then some v else lookN r x
@[simp] theorem lookN_nil {α : Type} (x : Nat) : lookN (α := α) [] x = none := (rfl)
@[simp] theorem lookN_cons {α : Type} (k : Nat) (v : α) (r : List (Nat × α)) (x : Nat) : lookN ((k, v) :: r) x = if x = k then some v else lookN r x := (rfl)
theorem lookN_mem {α : Type} : ∀ {L : List (Nat × α)} {x : Nat} {y : α}, lookN L x = some y → (x, y) ∈ L
  | (k, v) :: L, x, y, h => by
    simp only [lookN_cons] at h
    split at h
    · rename_i e
      cases h; subst e
      exact List.mem_cons_self
    · exact List.mem_cons_of_mem _ (lookN_mem h)
def leftF {α : Type} (n : Nat) (f : Nat → Option α) (L : List (Nat × α)) (x : Nat) : Option α := match lookN L x with | some cs => some cs | none => if x < n then f x else none
theorem leftF_less {α : Type} {n : Nat} {f g : Nat → Option α} {L : List (Nat × α)} (h1 : ∀ p ∈ L, g p.1 = some p.2) (h2 : ∀ x, x < n → lookN L x = none → g x = f x) {x : Nat} {y : α} (h : leftF n f L x = some y) : g x = some y := by
  unfold leftF at h
  split at h
  · rename_i cs' h3
    cases h
    exact h1 _ (lookN_mem h3)
  · rename_i h3
    split at h
    · rename_i h4; rw [h2 x h4 h3]; exact h
    · cases h
theorem leftF_new {α : Type} {n : Nat} {f : Nat → Option α} {L : List (Nat × α)} {x : Nat} {y : α} (h : lookN L x = some y) : leftF n f L x = some y := by
  unfold leftF; rw [h]
theorem leftF_old {α : Type} {n : Nat} {f : Nat → Option α} {L : List (Nat × α)} {x : Nat} (h : lookN L x = none) (hx : x < n) : leftF n f L x = f x := by
  unfold leftF; rw [h]; exact if_pos hx
def leftS (S : St) (k : Nat) (B : List (Nat × List SV)) (T : List (Nat × (Nat × Nat))) : St :=
  { S with B := leftF S.nx S.B B, T := leftF S.nx S.T T, nx := S.nx + k }
theorem leftS_keeps (S : St) (k : Nat) (B : List (Nat × List SV)) (T : List (Nat × (Nat × Nat))) : Keeps S (leftS S k B T) := ⟨rfl, rfl, rfl, by simp [leftS]⟩
theorem less_left {S S1 : St} {k : Nat} {B : List (Nat × List SV)} {T : List (Nat × (Nat × Nat))} (hn : S1.nx ≤ S.nx + k) (hB : ∀ p ∈ B, S1.B p.1 = some p.2) (hT : ∀ p ∈ T, S1.T p.1 = some p.2)
    (hB2 : ∀ x, x < S.nx → lookN B x = none → S1.B x = S.B x) (hT2 : ∀ x, x < S.nx → lookN T x = none → S1.T x = S.T x) : Less (leftS S k B T) S1 :=
  ⟨fun _ _ h => leftF_less hB hB2 h, fun _ _ h => leftF_less hT hT2 h, hn⟩
theorem elder_left {S S1 : St} {k : Nat} {B : List (Nat × List SV)} {T : List (Nat × (Nat × Nat))} (hB : ∀ p ∈ B, S1.B p.1 = some p.2) (hT : ∀ p ∈ T, S1.T p.1 = some p.2) (hBl : ∀ p ∈ B, p.1 < S.nx + k ∧ ltS (S.nx + k) p.2 = true) (hTl : ∀ p ∈ T, p.1 < S.nx + k)
    (hB2 : ∀ x, x < S.nx → lookN B x = none → S1.B x = S.B x) (hT2 : ∀ x, x < S.nx → lookN T x = none → S1.T x = S.T x) : Elder S (leftS S k B T) S1 := by
  refine ⟨rfl, rfl, rfl, Nat.le_add_right _ _, fun b cs h => ?_, fun i p h => ?_, fun b h => leftF_less hB hB2 h⟩
  · have h1 := leftF_less hB hB2 h
    simp only [leftS, leftF] at h ⊢
    split at h
    · rename_i cs' h3
      cases h
      have := hBl _ (lookN_mem h3)
      exact ⟨this.1, ⟨[], by simpa using h1⟩, .inl this.2⟩
    · split at h
      · rename_i h4; exact ⟨by omega, ⟨[], by simpa using h1⟩, .inr h⟩
      · cases h
  · have h1 := leftF_less hT hT2 h
    simp only [leftS, leftF] at h ⊢
    split at h
    · rename_i cs' h3
      exact ⟨hTl _ (lookN_mem h3), h1⟩
    · split at h
      · rename_i h4; exact ⟨by omega, h1⟩
      · cases h
@[simp] theorem leftS_n (S : St) (k : Nat) (B : List (Nat × List SV)) (T : List (Nat × (Nat × Nat))) : (leftS S k B T).n = S.n := (rfl)
@[simp] theorem leftS_md (S : St) (k : Nat) (B : List (Nat × List SV)) (T : List (Nat × (Nat × Nat))) : (leftS S k B T).md = S.md := (rfl)
@[simp] theorem leftS_gl (S : St) (k : Nat) (B : List (Nat × List SV)) (T : List (Nat × (Nat × Nat))) : (leftS S k B T).gl = S.gl := (rfl)
@[simp] theorem leftS_nx (S : St) (k : Nat) (B : List (Nat × List SV)) (T : List (Nat × (Nat × Nat))) : (leftS S k B T).nx = S.nx + k := (rfl)
@[simp] theorem leftS_B (S : St) (k : Nat) (B : List (Nat × List SV)) (T : List (Nat × (Nat × Nat))) (x : Nat) : (leftS S k B T).B x = leftF S.nx S.B B x := (rfl)
@[simp] theorem leftS_T (S : St) (k : Nat) (B : List (Nat × List SV)) (T : List (Nat × (Nat × Nat))) (x : Nat) : (leftS S k B T).T x = leftF S.nx S.T T x := (rfl)
@[simp] theorem leftF_cons {α : Type} (n : Nat) (f : Nat → Option α) (k : Nat) (v : α) (r : List (Nat × α)) (x : Nat) : leftF n f ((k, v) :: r) x = if x = k then some v else leftF n f r x := by
  unfold leftF; simp only [lookN_cons]; by_cases h : x = k <;> simp [h]
@[simp] theorem leftF_nil {α : Type} (n : Nat) (f : Nat → Option α) (x : Nat) : leftF n f [] x = if x < n then f x else none := by
  unfold leftF; simp only [lookN_nil]
/-- The elder variables and tips, but those of two lists, are as they were. -/
def Old (S0 : St) (bs ts : List Nat) (S : St) : Prop := ∀ x, x < S0.nx → (¬ x ∈ bs → S.B x = S0.B x) ∧ (¬ x ∈ ts → S.T x = S0.T x)
section
variable {S0 S : St} {bs ts : List Nat}
theorem Old.refl (S0 : St) (bs ts : List Nat) : Old S0 bs ts S0 := fun _ _ => ⟨fun _ => rfl, fun _ => rfl⟩
theorem Old.more {bs' ts' : List Nat} (h : Old S0 bs ts S) (hb : ∀ x ∈ bs, x ∈ bs') (ht : ∀ x ∈ ts, x ∈ ts') : Old S0 bs' ts' S :=
  fun x hx => ⟨fun h1 => (h x hx).1 fun h2 => h1 (hb x h2), fun h1 => (h x hx).2 fun h2 => h1 (ht x h2)⟩
@[simp] theorem old_adv {k : Nat} : Old S0 bs ts (S.adv k) = Old S0 bs ts S := (rfl)
@[simp] theorem old_mk {n nx : Nat} {md : List Nat} {gl : Nat → Option D} : Old S0 bs ts { B := S0.B, T := S0.T, n := n, nx := nx, md := md, gl := gl } = True := by
  simp [Old]
theorem old_set {q : Nat} {cs : List SV} (h : S0.nx ≤ q) : Old S0 bs ts (S.set q cs) = Old S0 bs ts S := by
  unfold Old
  refine propext (forall_congr' fun x => forall_congr' fun hx => ?_)
  simp [show ¬ x = q by omega]
theorem old_new {q : Nat} {cs : List SV} (h : S0.nx ≤ q) : Old S0 bs ts (S.new q cs) = Old S0 bs ts S := by
  unfold Old
  refine propext (forall_congr' fun x => forall_congr' fun hx => ?_)
  simp [show ¬ x = q by omega]
theorem old_tip {q k sz : Nat} (h : S0.nx ≤ q) : Old S0 bs ts (S.tipTo q k sz) = Old S0 bs ts S := by
  unfold Old
  refine propext (forall_congr' fun x => forall_congr' fun hx => ?_)
  simp [St.tipTo, show ¬ x = q by omega]
theorem old_setIn {q : Nat} {cs : List SV} (h : q ∈ bs) : Old S0 bs ts (S.set q cs) = Old S0 bs ts S := by
  unfold Old
  refine propext (forall_congr' fun x => forall_congr' fun hx => ?_)
  by_cases hb : x ∈ bs
  · simp [hb]
  · simp [hb, show ¬ x = q from fun e => hb (e ▸ h)]
theorem old_tipIn {q k sz : Nat} (h : q ∈ ts) : Old S0 bs ts (S.tipTo q k sz) = Old S0 bs ts S := by
  unfold Old
  refine propext (forall_congr' fun x => forall_congr' fun hx => ?_)
  by_cases hb : x ∈ ts
  · simp [hb, St.tipTo]
  · simp [hb, St.tipTo, show ¬ x = q from fun e => hb (e ▸ h)]
theorem old_left {k : Nat} {B : List (Nat × List SV)} {T : List (Nat × (Nat × Nat))} (h : S0.nx ≤ S.nx) (hB : ∀ p ∈ B, p.1 ∈ bs ∨ S0.nx ≤ p.1) (hT : ∀ p ∈ T, p.1 ∈ ts ∨ S0.nx ≤ p.1) (ho : Old S0 bs ts S) : Old S0 bs ts (leftS S k B T) := by
  intro x hx
  refine ⟨fun hb => ?_, fun ht => ?_⟩
  · have : lookN B x = none := by
      cases hl : lookN B x with
      | none => rfl
      | some y => rcases hB _ (lookN_mem hl) with h1 | h1 <;> simp only at h1
                  · exact absurd h1 hb
                  · omega
    simp only [leftS]
    rw [leftF_old this (by omega)]
    exact (ho x hx).1 hb
  · have : lookN T x = none := by
      cases hl : lookN T x with
      | none => rfl
      | some y => rcases hT _ (lookN_mem hl) with h1 | h1 <;> simp only at h1
                  · exact absurd h1 ht
                  · omega
    simp only [leftS]
    rw [leftF_old this (by omega)]
    exact (ho x hx).2 ht
end
theorem elder_old {S0 S1 : St} {k : Nat} {B : List (Nat × List SV)} {T : List (Nat × (Nat × Nat))} {bs ts : List Nat} (h : Old S0 bs ts S1) (hB : ∀ p ∈ B, S1.B p.1 = some p.2) (hT : ∀ p ∈ T, S1.T p.1 = some p.2) (hBl : ∀ p ∈ B, p.1 < S0.nx + k ∧ ltS (S0.nx + k) p.2 = true) (hTl : ∀ p ∈ T, p.1 < S0.nx + k)
    (hB2 : ∀ x ∈ bs, x < S0.nx → lookN B x = none → S1.B x = S0.B x) (hT2 : ∀ x ∈ ts, x < S0.nx → lookN T x = none → S1.T x = S0.T x) : Elder S0 (leftS S0 k B T) S1 :=
  elder_left hB hT hBl hTl (fun x hx hl => if hb : x ∈ bs then hB2 x hb hx hl else (h x hx).1 hb) (fun x hx hl => if hb : x ∈ ts then hT2 x hb hx hl else (h x hx).2 hb)
/-- Of one variable the first cells alone are still known. -/
def onlyS (S : St) (b : Nat) (cs : List SV) : St := { S with B := fun x => if x = b then some cs else none, T := fun _ => none }
@[simp] theorem onlyS_n (S : St) (b : Nat) (cs : List SV) : (onlyS S b cs).n = S.n := (rfl)
@[simp] theorem onlyS_md (S : St) (b : Nat) (cs : List SV) : (onlyS S b cs).md = S.md := (rfl)
@[simp] theorem onlyS_gl (S : St) (b : Nat) (cs : List SV) : (onlyS S b cs).gl = S.gl := (rfl)
@[simp] theorem onlyS_nx (S : St) (b : Nat) (cs : List SV) : (onlyS S b cs).nx = S.nx := (rfl)
@[simp] theorem onlyS_B (S : St) (b : Nat) (cs : List SV) (x : Nat) : (onlyS S b cs).B x = if x = b then some cs else none := (rfl)
@[simp] theorem onlyS_T (S : St) (b : Nat) (cs : List SV) (x : Nat) : (onlyS S b cs).T x = none := (rfl)
theorem onlyS_keeps (S : St) (b : Nat) (cs : List SV) : Keeps S (onlyS S b cs) := ⟨rfl, rfl, rfl, Nat.le_refl _⟩
theorem elder_only {S S1 : St} {b : Nat} {cs l : List SV} (hb : b < S.nx) (h : S1.B b = some (cs ++ l)) (hl : ltS S.nx cs = true) (hne : cs = [] → l = [] := by simp) : Elder S (onlyS S b cs) S1 := by
  refine ⟨rfl, rfl, rfl, Nat.le_refl _, fun x c hx => ?_, fun x p hx => by simp at hx, fun x hx => ?_⟩
  rotate_left
  · simp only [onlyS_B] at hx
    split at hx
    · rename_i e; cases hx; subst e; rw [h, hne rfl]; rfl
    · cases hx
  simp only [onlyS_B] at hx
  split at hx
  · rename_i e; cases hx; subst e; exact ⟨hb, ⟨l, h⟩, .inl hl⟩
  · cases hx
end Go.Proofs.Ytghbkljdpikpdaa
