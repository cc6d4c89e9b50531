/- What the table of words has when the call begins. -/
import Derived.Test.YtocjkeieieknbaaDoorRows
import Derived.Test.YtocjkeieieknbaaDoorSd
import Derived.Test.YtocjkeieieknbaaDoorShP
import Derived.WalkKit
import Derived.ProofKit
import Derived.LaidMore
import Derived.OpenShut
import Derived.OpenVars
import Derived.SevenTiedAt
import Derived.Stop.Joined
namespace Go.Proofs.YtocjkeieieknbaaDoor
open Go.ChangeShapes Go.WideShapes Go.ChangeAt Go.RowKit Go.Sh
set_option linter.unusedVariables false
abbrev laidV : List (String × DataW Unit) := [("loop.example/pergola/impl.sumWords", Rows.laid_loop_example_pergola_impl_sumWords)]
theorem gWords : Tryd.prog.globalNamed "loop.example/pergola/impl.sumWords" = some 0 := by kernel_rfl
theorem tWords : (Tryd.prog.globals[0]?).map (·.type) = some 69 := by kernel_rfl
theorem laid_words : (Rows.laid_loop_example_pergola_impl_sumWords : DataW Unit) = .agg (kL.map fun w => .lit (.int .u32 (wI w))) := by rfl
theorem door_met (os : Os) (args : Array Value) : laidMetH Tryd.prog laidV ((World.doorLaid Tryd.prog 400 os).forCall (fun _ _ => 0) ⟨#[], args, []⟩).memory :=
  laidMetH_of_parts3 (fuel := 8) (laidMet_of_run' 8 (by kernel_rfl) (by kernel_rfl)) (by kernel_rfl) (by kernel_rfl)
/-- The table's words. -/
theorem of_laid {W : World} (h : laidMetH Tryd.prog laidV W) : PV (markAll W) W kD (.pointer (some ⟨0, 0, none⟩)) := by
  rw [MakeChecks.laidMetH_plain _ _ _ (by kernel_rfl)] at h
  obtain ⟨ps, ⟨g0, t0, cs0, f0, p0, q0, hg0, ht0, hv0, hd0, _, _⟩, _, _⟩ := h
  obtain rfl := Option.some.inj (gWords.symm.trans hg0)
  obtain rfl := Option.some.inj (tWords.symm.trans ht0)
  obtain ⟨xs, m1, rfl, hx1, hlen, hn3, hel⟩ := DataW.trod_array (n := 64) (e := 40) (by kernel_rfl) hd0
  have c1 : Tryd.prog.cellsOf 40 = 1 := by kernel_rfl
  have cell : ∀ j, j < 64 → W.cell? ⟨0, j, none⟩ = some (.int .u32 (wI (kAt j))) := by
    intro j hj
    have h1 := hel j hj
    have hj2 : j < xs.length := by omega
    rw [c1, Nat.mul_one, List.getElem?_eq_getElem hj2] at h1
    obtain ⟨k, e1, e2, _⟩ := DataW.trod_int (k := .u32) (by kernel_rfl) h1
    have e3 : (xs.map (·.1))[j]? = some (.lit (.int .u32 (wI (kAt j)))) := by
      have : DataW.agg (xs.map (·.1)) = .agg (kL.map fun w => .lit (.int .u32 (wI w))) := by rw [← laid_words]; exact (congrArg Prod.fst hx1).symm
      injection this with this
      rw [this, List.getElem?_map, kAt_at hj]; rfl
    rw [List.getElem?_map, List.getElem?_eq_getElem hj2, e2] at e3
    simp only [Option.map_some, Option.some.injEq, DataW.lit.injEq, Lit.int.injEq, true_and] at e3
    subst e3
    have h2 := World.var?_cell hg0 hv0 j
    rw [h2]
    have h3 : (cs0.toList.drop j).take 1 = [Value.int .u32 (wI (kAt j))] := e1
    have h4 : ((cs0.toList.drop j).take 1)[0]? = some (Value.int .u32 (wI (kAt j))) := by rw [h3]; rfl
    rw [List.getElem?_take, if_pos (by omega), List.getElem?_drop, Nat.add_zero, Array.getElem?_toList] at h4
    exact h4
  have hkl : (kL.map dW).length = 64 := by rw [List.length_map, kL_len]
  have := PV.pp (m := markAll W) (w := W) (cs := kL.map dW) (off := 0) (B := 0) (o := 0) (fun j => .int .u32 (wI (kAt j))) (fun j hj => by
    have hc := cell j (by omega)
    simp only [Nat.zero_add]
    exact ⟨(markAll_cell hc).2, hc⟩) (fun j hj => by simp [D.cell]) (fun j hj => by
    have hj2 : j < 64 := by omega
    have h2 : (kL.map dW)[j]? = some (dW (kAt j)) := by rw [List.getElem?_map, kAt_at hj2]; rfl
    rw [List.getElem?_eq_getElem hj] at h2
    have e : (kL.map dW)[j] = dW (kAt j) := Option.some.inj h2
    have key : ∀ x : D, x = dW (kAt j) → PV (markAll W) W x (.int .u32 (wI (kAt j))) := fun x hx => by subst hx; exact .v rfl
    exact key _ e)
  exact this

theorem laid_gok {W : World} (h : laidMetH Tryd.prog laidV W) : GOK sumGl (markAll W) W := fun g x hg => by
  simp only [sumGl] at hg
  split at hg
  · rename_i e; subst e
    simp only [Option.some.injEq] at hg
    subst hg
    exact of_laid h
  · cases hg
theorem one_var {H : Type} {enc : TypeId × Value → H} {P : Program} {W : World} {sp : Nat → Bool} {n : String} {gs : List (DataW H)} {q : List MemPlace} (hV : DataW.TrodVars enc P W sp [n] gs q) : ∃ g1, gs = [g1] := by
  cases gs with
  | nil => exact hV.elim
  | cons a r =>
    obtain ⟨g, t, cs, fuel, p1, q1, _, _, _, _, h5, _⟩ := hV
    cases r with
    | nil => exact ⟨a, rfl⟩
    | cons a r => exact h5.elim
end Go.Proofs.YtocjkeieieknbaaDoor
