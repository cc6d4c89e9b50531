/- Rows that are filled one after the other; copies and comparisons of lists of texts. -/
import Derived.Test.YtocjkeieieknbaaFb
set_option linter.unusedVariables false
set_option linter.unusedSimpArgs false
set_option maxRecDepth 100000
namespace Go.Proofs.Ytocjkeieieknbaa
open Go.Sh
/-! ### rows -/
section
variable {α β : Type} {enc : α → List β} {k : Nat}
theorem row_len (h : ∀ x, (enc x).length = k) : ∀ l : List α, (l.flatMap enc).length = l.length * k
  | [] => by simp
  | x :: r => by rw [List.flatMap_cons, List.length_append, h x, row_len h r, List.length_cons, Nat.add_mul]; omega
theorem row_drop (h : ∀ x, (enc x).length = k) : ∀ (l : List α) (i : Nat), (l.flatMap enc).drop (i * k) = (l.drop i).flatMap enc
  | [], i => by simp
  | x :: r, 0 => by simp
  | x :: r, i + 1 => by
    rw [List.flatMap_cons, List.drop_succ_cons, ← row_drop h r i, Nat.add_mul, Nat.one_mul, List.drop_append, h x]
    rw [List.drop_eq_nil_of_le (by rw [h x]; omega), List.nil_append]
    congr 1; omega
theorem row_take (h : ∀ x, (enc x).length = k) : ∀ (l : List α) (i : Nat), (l.flatMap enc).take (i * k) = (l.take i).flatMap enc
  | [], i => by simp
  | x :: r, 0 => by simp
  | x :: r, i + 1 => by
    rw [List.flatMap_cons, List.take_succ_cons, List.flatMap_cons, ← row_take h r i, Nat.add_mul, Nat.one_mul, List.take_append, h x]
    rw [List.take_of_length_le (by rw [h x]; omega)]
    congr 2; omega
/-- The cells of an element. -/
theorem row_at (h : ∀ x, (enc x).length = k) (l : List α) (i : Nat) (hi : i < l.length) : ((l.flatMap enc).drop (i * k)).take k = enc l[i] := by
  rw [row_drop h, List.drop_eq_getElem_cons hi, List.flatMap_cons, List.take_append, h]
  rw [List.take_of_length_le (by rw [h]; omega)]
  simp

/-- The first i of a row are there, the others are still what they were. -/
def filled (enc : α → List β) (z : List β) (l : List α) (i : Nat) : List β := (l.take i).flatMap enc ++ (List.replicate (l.length - i) z).flatten
variable {z : List β}
theorem zeros_len (hz : z.length = k) (n : Nat) : ((List.replicate n z).flatten).length = n * k := by
  simp [List.length_flatten, hz]
theorem filled_len (h : ∀ x, (enc x).length = k) (hz : z.length = k) (l : List α) {i : Nat} (hi : i ≤ l.length) : (filled enc z l i).length = l.length * k := by
  unfold filled
  rw [List.length_append, row_len h, zeros_len hz, List.length_take, ← Nat.add_mul]
  congr 1; omega
theorem filled_next (h : ∀ x, (enc x).length = k) (hz : z.length = k) (l : List α) {i : Nat} (hi : i < l.length) : (filled enc z l i).take (i * k) ++ enc l[i] ++ (filled enc z l i).drop (i * k + k) = filled enc z l (i + 1) := by
  have e1 : ((l.take i).flatMap enc).length = i * k := by rw [row_len h, List.length_take]; congr 1; omega
  unfold filled
  rw [List.take_append, List.drop_append, e1]
  rw [List.take_of_length_le (by omega), Nat.sub_self, List.take_zero, List.append_nil, List.drop_eq_nil_of_le (by omega), List.nil_append]
  have e2 : i * k + k - i * k = k := by omega
  have e3 : l.length - i = (l.length - (i + 1)) + 1 := by omega
  rw [e2, e3, List.replicate_succ, List.flatten_cons, List.drop_append, hz, Nat.sub_self, List.drop_eq_nil_of_le (by omega), List.nil_append]
  rw [List.take_succ_eq_append_getElem hi, List.flatMap_append]
  simp
theorem filled_all (l : List α) : filled enc z l l.length = l.flatMap enc := by
  unfold filled; simp
theorem filled_none (l : List α) : filled enc z l 0 = (List.replicate l.length z).flatten := by
  unfold filled; simp
/-- A new row's cells. -/
theorem made_row (d : β) (hz : z.length = k) : ∀ n : Nat, ((List.range (n * k)).map fun j => z.getD (j % k) d) = (List.replicate n z).flatten
  | 0 => by simp
  | n + 1 => by
    have ih := made_row d hz n
    rw [List.replicate_succ', List.flatten_append, ← ih, Nat.add_mul, Nat.one_mul, List.range_add, List.map_append]
    congr 1
    simp only [List.map_map, List.flatten_cons, List.flatten_nil, List.append_nil]
    apply List.ext_getElem
    · simp [hz]
    · intro j h1 h2
      simp only [List.length_map, List.length_range] at h1
      simp only [List.getElem_map, List.getElem_range, Function.comp_apply]
      rw [Nat.mul_comm n k, Nat.mul_add_mod, Nat.mod_eq_of_lt h1, List.getD_eq_getElem?_getD, List.getElem?_eq_getElem (by omega)]
      rfl
end
theorem map_flat {α β : Type} (f : α → β) (l : List α) : l.map f = l.flatMap fun x => [f x] := by
  induction l with
  | nil => rfl
  | cons x r ih => simp [ih]

theorem madeS_row (zs : List SV) (n : Nat) : madeS zs zs.length n = (List.replicate n zs).flatten := made_row _ rfl n

@[simp] theorem madeS_one (z : SV) (n : Nat) : madeS [z] 1 n = List.replicate n z := by
  have := madeS_row [z] n
  simpa using this

abbrev sS (s : ByteArray) : List SV := [.d (dS s)]
theorem sS_row (l : List ByteArray) : l.flatMap sS = (l.map dS).map .d := by
  rw [List.map_map, map_flat]; rfl
set_option maxHeartbeats 1000000 in
theorem p_toStringS (l : List ByteArray) (hl : l.length ≤ 1048576) : PCall Try.prog noGl 36 [namesD l] (namesD l) := by
  refine PCall.by_ (md := []) Try.func36 rfl (by kernel_rfl) (n := 22) Try.ntmps36 (by simp) (by decide) rfl ?_
  simp
  refine ⟨by omega, ?_⟩
  refine LoopT.round (fun E S => ∃ i : Nat, i ≤ l.length ∧ E 0 = some (.d (namesD l)) ∧ E 3 = some (.os 3 0 l.length) ∧ E 4 = some (.d (dI i)) ∧ S.B 3 = some (filled sS [.d (dS ⟨#[]⟩)] l i)) (upTo 4 l.length) ⟨0, by simp [filled_none]⟩ ?_
  rintro E S hk ⟨i, hi, h0, h3, h4, hB⟩
  have hn : S.n = 22 := by simpa using hk.n
  have w : IntKind.i64.wrap ((i : Int) + 1) = (i : Int) + 1 := wrap64 (by omega) (by omega)
  simp [h0, h3, h4, hn]
  refine BrT.dec (fun h => ?_) (fun h => ?_)
  · have hi2 : i < l.length := by omega
    have hlen := filled_len (enc := sS) (z := [.d (dS ⟨#[]⟩)]) (fun _ => rfl) rfl l hi
    have hnext := filled_next (enc := sS) (z := [.d (dS ⟨#[]⟩)]) (fun _ => rfl) rfl l hi2
    simp only [Nat.mul_one] at hlen hnext
    simp [h0, h3, h4, hn, hi2, hB, w, hlen]
    refine ⟨by omega, ⟨i + 1, by omega, rfl, ?_⟩, upTo_lt h4 (by simp) hi2⟩
    rw [← hnext]
    simp
  · have hi3 : i = l.length := by omega
    subst hi3
    rw [filled_all, sS_row] at hB
    simp [h0, h3, h4, hn, hB]
end Go.Proofs.Ytocjkeieieknbaa
