/- Values that differ do so at a place; spans; texts in new memory. -/
import Derived.Test.YtghbkljdpikpdaaGb
set_option linter.unusedVariables false
set_option linter.unusedSimpArgs false
set_option maxRecDepth 100000
namespace Go.Proofs.Ytghbkljdpikpdaa
open Go.Sh
variable {gl : Nat → Option D}
theorem names_apart : ∀ {a b : List ByteArray}, a.length = b.length → a ≠ b → ∃ (j : Nat) (h : j < (a.map dS).length) (h' : j < (b.map dS).length), Apart (a.map dS)[j] (b.map dS)[j]
  | [], [], _, h => absurd rfl h
  | x :: a, y :: b, hl, h => by
    by_cases e : x = y
    · subst e
      obtain ⟨j, h1, h2, h3⟩ := names_apart (a := a) (b := b) (by simpa using hl) (fun e => h (by rw [e]))
      exact ⟨j + 1, by simpa using h1, by simpa using h2, by simpa using h3⟩
    · exact ⟨0, by simp, by simp, .v (fun c => e (by simpa using c))⟩
mutual
theorem cells_apart : ∀ (a b : Val), a ≠ b → ∃ (j : Nat) (h : j < a.cells.length) (h' : j < b.cells.length), Apart a.cells[j] b.cells[j]
  | .mk k n t l ns, .mk k' n' t' l' ns', h => by
    by_cases e1 : k = k'
    · by_cases e2 : n = n'
      · by_cases e3 : t = t'
        · by_cases e4 : l = l'
          · have e5 : ns ≠ ns' := fun e => h (by rw [e1, e2, e3, e4, e])
            refine ⟨4, by simp [Val.cells], by simp [Val.cells], ?_⟩
            simp only [Val.cells, List.getElem_cons_succ, List.getElem_cons_zero]
            by_cases e : ns.length = ns'.length
            · obtain ⟨j, h1, h2, h3⟩ := names_apart e e5
              exact .ps h1 h2 h3
            · exact .len e
          · refine ⟨3, by simp [Val.cells], by simp [Val.cells], ?_⟩
            simp only [Val.cells, List.getElem_cons_succ, List.getElem_cons_zero]
            by_cases e : l.length = l'.length
            · obtain ⟨j, h1, h2, h3⟩ := list_apart l l' e e4
              exact .ps h1 h2 h3
            · exact .len e
        · exact ⟨2, by simp [Val.cells], by simp [Val.cells], by simp only [Val.cells, List.getElem_cons_succ, List.getElem_cons_zero]; exact .v (fun c => e3 (by simpa using c))⟩
      · exact ⟨1, by simp [Val.cells], by simp [Val.cells], by simp only [Val.cells, List.getElem_cons_succ, List.getElem_cons_zero]; exact .v (fun c => e2 (by simpa using c))⟩
    · exact ⟨0, by simp [Val.cells], by simp [Val.cells], by simp only [Val.cells, List.getElem_cons_succ, List.getElem_cons_zero]; exact .v (fun c => e1 (by simpa using c))⟩
theorem list_apart : ∀ (a b : List Val), a.length = b.length → a ≠ b → ∃ (j : Nat) (h : j < (valsCells a).length) (h' : j < (valsCells b).length), Apart (valsCells a)[j] (valsCells b)[j]
  | [], [], _, h => absurd rfl h
  | [], _ :: _, h, _ => by simp at h
  | _ :: _, [], h, _ => by simp at h
  | x :: a, y :: b, hl, h => by
    by_cases e : x = y
    · subst e
      obtain ⟨j, h1, h2, h3⟩ := list_apart a b (by simpa using hl) (fun e => h (by rw [e]))
      have hx := cells_len x
      refine ⟨5 + j, by simp [valsCells, hx]; omega, by simp [valsCells, hx]; omega, ?_⟩
      simp only [valsCells]
      rw [List.getElem_append_right (by omega), List.getElem_append_right (by omega)]
      simp only [hx, Nat.add_sub_cancel_left]
      exact h3
    · obtain ⟨j, h1, h2, h3⟩ := cells_apart x y e
      refine ⟨j, by simp only [valsCells, List.length_append]; omega, by simp only [valsCells, List.length_append]; omega, ?_⟩
      simp only [valsCells]
      rw [List.getElem_append_left h1, List.getElem_append_left h2]
      exact h3
end
/-- A list by where it lies. -/
def spanC (l : List Val) : List D := if l = [] then [.v (.pointer none), dI 0] else [.pp (valsCells l) 0, dI l.length]
theorem span_apart {a b : List Val} (h : a ≠ b) : Apart (.agg (spanC a)) (.agg (spanC b)) := by
  unfold spanC
  by_cases ha : a = []
  · subst ha
    rw [if_pos rfl, if_neg (fun e => h e.symm)]
    exact .agg (j := 0) (by simp) (by simp) .nilp
  · by_cases hb : b = []
    · subst hb
      rw [if_neg ha, if_pos rfl]
      exact .agg (j := 0) (by simp) (by simp) .pnil
    · rw [if_neg ha, if_neg hb]
      by_cases e : a.length = b.length
      · obtain ⟨j, h1, h2, h3⟩ := list_apart a b e h
        exact .agg (j := 0) (by simp) (by simp) (.pp (j := j) (by simpa using h1) (by simpa using h2) (by simpa using h3))
      · refine .agg (j := 1) (by simp) (by simp) (.v (fun c => e ?_))
        simp only [List.getElem_cons_succ, List.getElem_cons_zero, Value.int.injEq, true_and] at c
        omega
@[simp] theorem spanC_len (l : List Val) : (spanC l).length = 2 := by unfold spanC; split <;> rfl
theorem span_key {T : TypeId} (hT : spanT Try.prog T = true) (l : List Val) : keyD Try.prog T (.agg (spanC l)) = true := by
  unfold spanC
  split
  · simp [keyD, hT, ptrD, intD]
  · rename_i h
    cases l with
    | nil => exact absurd rfl h
    | cons v r => cases v; simp [keyD, hT, ptrD, intD, valsCells, Val.cells]
theorem p_spanOf (l : List Val) (hl : l.length ≤ 4611686018427387904) : PCall Try.prog gl 63 [valsD l] (.agg (spanC l)) := by
  refine PCall.by_ (md := []) Try.func63 rfl (by kernel_rfl) (n := 12) Try.ntmps63 (by simp) (by decide) rfl ?_
  simp
  refine BrT.dec (fun c => ?_) (fun c => ?_)
  · subst c
    simp [spanC]
  · have h0 : 0 < l.length := List.length_pos_iff.2 c
    have hlen := valsCells_len l
    simp [c, spanC, h0, hlen]
set_option maxHeartbeats 1000000 in
theorem g_copyTexts (l : List ByteArray) (hl : l.length ≤ 1048576) : rowF1 gl 110 [namesD l] (skS false l) := by
  refine FCall.by_ (md := []) Try.func110 rfl (by kernel_rfl) (n := 14) Try.ntmps110 (by simp) (by decide) rfl ?_
  simp
  refine BrT.dec (fun c => ?_) (fun c => ?_)
  · subst c
    simp
    exact fin_1 (x := .nil) (sk := .nil) ((At.cons_nil .nil : At _ 0 0 _)) rfl rfl
  · have h0 : l.length ≠ 0 := fun e => c (List.eq_nil_of_length_eq_zero e)
    simp [c]
    have hsh : skS false l = .row none l.length (l.map fun s => .d (.string s)) := by simp [skS, skR, h0]
    rw [hsh]
    exact ⟨by omega, by omega, fin_1 (lo := 6) (hi := 7) (x := .row none 6 l.length (ldT l)) (.row (by simp [svs]) (by omega) (by omega) (ldT_at l) (by rw [ldT_vars]; simp)) (by simp only [Ld.sh, ldT_sh]) rfl⟩
end Go.Proofs.Ytghbkljdpikpdaa
