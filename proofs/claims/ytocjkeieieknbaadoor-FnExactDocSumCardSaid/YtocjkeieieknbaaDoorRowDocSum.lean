/- FnExactDocSum: for every text, the law answers true; the text and the table of words stay as they were. The words of the table are what the program's text lays. -/
import Derived.Test.YtocjkeieieknbaaDoorRows
import Derived.Test.YtocjkeieieknbaaDoorCards
import Derived.Test.YtocjkeieieknbaaDoorTie
import Derived.Test.YtocjkeieieknbaaDoorSj
import Derived.Test.YtocjkeieieknbaaDoorShP
import Derived.WalkKit
import Derived.ProofKit
import Derived.LaidMore
import Derived.OpenShut
import Derived.OpenVars
import Derived.ChangeOld
import Derived.Below
import Derived.SizedLaws
import Derived.SevenTiedAt
import Derived.Stop.Joined
namespace Go.Proofs.YtocjkeieieknbaaDoor.fnExactDocSum
open Go.ChangeShapes Go.WideShapes Go.ChangeAt Go.RowKit Go.Sh
set_option linter.unusedVariables false
theorem own : ownKnob Tryd.prog.godebug = none := by kernel_rfl
theorem laidOut : laidOutB Tryd.prog = true := by kernel_rfl
abbrev laidW : List (String × DataW Unit) := [("loop.example/pergola/impl.sumWords", Rows.laid_loop_example_pergola_impl_sumWords)]
theorem gWords : Tryd.prog.globalNamed "loop.example/pergola/impl.sumWords" = some 0 := by kernel_rfl
theorem tWords : (Tryd.prog.globals[0]?).map (·.type) = some 69 := by kernel_rfl
theorem laid_words : (Rows.laid_loop_example_pergola_impl_sumWords : DataW Unit) = .agg (kL.map fun w => .lit (.int .u32 (wI w))) := by rfl
theorem door_met (os : Os) (args : Array Value) : laidMetH Tryd.prog laidW ((World.doorLaid Tryd.prog 400 os).forCall (fun _ _ => 0) ⟨#[], args, []⟩).memory :=
  laidMetH_of_parts3 (fuel := 8) (laidMet_of_run' 8 (by kernel_rfl) (by kernel_rfl)) (by kernel_rfl) (by kernel_rfl)
/-- The table's words. -/
theorem of_laid {W : World} (h : laidMetH Tryd.prog laidW W) : PV (markAll W) W kD (.pointer (some ⟨0, 0, none⟩)) := by
  rw [MakeChecks.laidMetH_plain _ _ _ (by kernel_rfl)] at h
  obtain ⟨ps, ⟨g0, t0, cs0, f0, p0, q0, hg0, ht0, hv0, hd0, _, _⟩, _, _⟩ := h
  obtain rfl := Option.some.inj (gWords.symm.trans hg0)
  obtain rfl := Option.some.inj (tWords.symm.trans ht0)
  obtain ⟨xs, m1, rfl, hx1, hlen, hn3, hel⟩ := DataW.trod_array (n := 64) (e := 40) (by kernel_rfl) hd0
  have c1 : Tryd.prog.cellsOf 40 = 1 := by kernel_rfl
  have cell : ∀ j, j < 64 → W.cell? ⟨0, j, none⟩ = some (.int .u32 (wI (kAt j))) := by
    intro j hj
    have h1 := hel j hj
    have hj2 : j < xs.length := by omega
    rw [c1, Nat.mul_one, List.getElem?_eq_getElem hj2] at h1
    obtain ⟨k, e1, e2, _⟩ := DataW.trod_int (k := .u32) (by kernel_rfl) h1
    have e3 : (xs.map (·.1))[j]? = some (.lit (.int .u32 (wI (kAt j)))) := by
      have : DataW.agg (xs.map (·.1)) = .agg (kL.map fun w => .lit (.int .u32 (wI w))) := by rw [← laid_words]; exact (congrArg Prod.fst hx1).symm
      injection this with this
      rw [this, List.getElem?_map, kAt_at hj]; rfl
    rw [List.getElem?_map, List.getElem?_eq_getElem hj2, e2] at e3
    simp only [Option.map_some, Option.some.injEq, DataW.lit.injEq, Lit.int.injEq, true_and] at e3
    subst e3
    have h2 := World.var?_cell hg0 hv0 j
    rw [h2]
    have h3 : (cs0.toList.drop j).take 1 = [Value.int .u32 (wI (kAt j))] := e1
    have h4 : ((cs0.toList.drop j).take 1)[0]? = some (Value.int .u32 (wI (kAt j))) := by rw [h3]; rfl
    rw [List.getElem?_take, if_pos (by omega), List.getElem?_drop, Nat.add_zero, Array.getElem?_toList] at h4
    exact h4
  have hkl : (kL.map dW).length = 64 := by rw [List.length_map, kL_len]
  have := PV.pp (m := markAll W) (w := W) (cs := kL.map dW) (off := 0) (B := 0) (o := 0) (fun j => .int .u32 (wI (kAt j))) (fun j hj => by
    have hc := cell j (by omega)
    simp only [Nat.zero_add]
    exact ⟨(markAll_cell hc).2, hc⟩) (fun j hj => by simp [D.cell]) (fun j hj => by
    have hj2 : j < 64 := by omega
    have h2 : (kL.map dW)[j]? = some (dW (kAt j)) := by rw [List.getElem?_map, kAt_at hj2]; rfl
    rw [List.getElem?_eq_getElem hj] at h2
    have e : (kL.map dW)[j] = dW (kAt j) := Option.some.inj h2
    have key : ∀ x : D, x = dW (kAt j) → PV (markAll W) W x (.int .u32 (wI (kAt j))) := fun x hx => by subst hx; exact .v rfl
    exact key _ e)
  exact this

set_option maxRecDepth 100000 in
theorem lifted (os : Os) (started : os.Started) (H : Type) (enc : TypeId × Value → H) :
    ReturnsInHanded {} Tryd.checked os 3 .any (fun w args => (Rows.fnExactDocSumSpec.pre enc Tryd.prog Tryd.f3 [] false w args ∧ laidMetH Tryd.prog laidW w) ∧ sizedMet enc Tryd.prog Tryd.f3 (OpenSpec.ofChange Rows.fnExactDocSumSpec) false w args)
      (Rows.fnExactDocSumSpec.post enc Tryd.prog Tryd.f3 false true false false) := by
  refine returnsInHanded_of_change_and (C := Tryd.checked) (X := fun w _ => laidMetH Tryd.prog laidW w) (fun _ _ _ hh h => h.of_heap hh) own started (by kernel_rfl) Tryd.func3
    (ChangeSpec.witness_shaped (enc := enc) (C := Tryd.checked) (os := os) (X := fun w _ => laidMetH Tryd.prog laidW w) false (World.doorLaid Tryd.prog 400 os) #[.string ByteArray.empty] 8 rfl (World.shaped_of_RefB (by kernel_rfl) (by kernel_rfl)) (by kernel_rfl) (by kernel_rfl) (by kernel_rfl) (door_met os _)) ?_
  intro W base args ds gs before hval0 hW hcnd hsz0 hL _
  have hsz : (DataW.weightsEach Tryd.prog (Tryd.f3.params.toList ++ Rows.fnExactDocSumSpec.plain.varTypes Tryd.prog) (ds ++ gs)).all (· ≤ reachBytes) = true := hsz0
  have hval : ∀ (j : Nat) t v, Tryd.f3.params[j]? = some t → args[j]? = some v → Value.okWide Tryd.prog W .any base t v := hval0
  have hW' := hW
  obtain ⟨p, q, hA0, hV, rfl, hfz, hnd⟩ := hW
  have hA : DataW.TrodAll enc Tryd.prog W 0 (fun _ => true) true Tryd.f3.params.toList args.toList ds p := hA0
  rw [Tryd.params3] at hA hval hsz
  obtain ⟨v0, vs0, d0, ds0, p0, q0, hargs, rfl, rfl, h0, r0⟩ := trodAll_cons hA
  obtain ⟨rfl, rfl, rfl⟩ := trodAll_nil r0
  obtain rfl : args = #[v0] := by cases args; simp_all
  have k0 := h0
  have lt0 : ∀ x ∈ p0, x.block < W.heap.size := by obtain ⟨m, hm⟩ := k0; exact DataW.trod_lt m _ _ _ hm
  have hw0 : ∀ m ∈ d0.weights Tryd.prog 9, m ≤ reachBytes := by
    intro m hm
    have := List.all_eq_true.1 hsz m (DataW.weights_mem_each (j := 0) (t := 9) (d := d0) rfl rfl m hm)
    simpa using this
  obtain ⟨s0, rfl⟩ := okWide_string (by kernel_rfl) (hval 0 9 v0 rfl rfl)
  obtain ⟨s, hs, hp⟩ := Opens.arg1 (fun n => Opens.string (t := 9) (by kernel_rfl) n) h0 rfl hw0
  have hG : GOK sumGl (markAll W) W := fun g x hg => by
    simp only [sumGl] at hg
    split at hg
    · rename_i e; subst e
      simp only [Option.some.injEq] at hg
      subst hg
      exact of_laid hL
    · cases hg
  refine ((p_lawDocSum s (by omega)).2 (markAll W) W [_] (markAll_new W) hG rfl (fun j hj hj' => ?_)).mono fun e W' ⟨u, m', he, hu, _, _, bel⟩ => ?_
  · have : j = 0 := by simpa using hj
    subst this
    exact hp
  subst he
  cases hu with
  | v _ =>
  obtain ⟨g1, gs1, hgs⟩ : ∃ g1 gs1, gs = g1 :: gs1 := by
    cases gs with
    | nil => exact hV.elim
    | cons a r => exact ⟨a, r, rfl⟩
  subst hgs
  have hgs1 : gs1 = [] := by
    obtain ⟨g, t, cs, fuel, p1, q1, _, _, _, _, h5, _⟩ := hV
    cases gs1 with
    | nil => rfl
    | cons a r => exact h5.elim
  subst hgs1
  exact ⟨_, rfl, _, _, _, [], _, q, hW', trodAll_mk1 (shut_bool (by kernel_rfl) _), (trodAll_cons_mk (Below.trod laidOut (by kernel_rfl) (of_decide_eq_true (by kernel_rfl)) k0 bel lt0) trodAll_mk0), Below.trodVars laidOut bel (by kernel_rfl) hV, bel.frame _, fun h => by cases h⟩

theorem over : Rows.FnExactDocSumSaid :=
  OpenClaim.holds_of_wide 3 Tryd.f3 rfl rfl rfl rfl rfl rfl rfl ⟨rfl, rfl, rfl, rfl, rfl⟩ rfl rfl rfl rfl rfl (by kernel_rfl) Tryd.func3 (by kernel_rfl)
    (of_decide_eq_true (by kernel_rfl)) (by unfold Func.isWrapper; first | (rw [if_pos (by decide +kernel)]; kernel_rfl) | (rw [if_neg (by decide +kernel)]; exact ⟨rfl, rfl⟩))
    (fun os started H enc _ => lifted os started H enc)
theorem proved : Rows.FnExactDocSumCardSaid :=
  Claim7.holds_tied_plain_at .later [] [.data] true (true, "471533e35f8b7d13ba8479b3c9ed85d53a72209b9151f9fd366ef788b675318f") false
    over (fun _ h => by cases h) (by kernel_rfl) (fun _ h => by cases h) fnExactDocSum_row_tie rfl ⟨rfl, rfl⟩ (by kernel_rfl) rfl
    (fun f fn hf hfn => by
      obtain rfl : f = 3 := Option.some.inj ((show Tryd.prog.funcNamed "loop.example/pergola/laws.FnExactDocSum" = some 3 by kernel_rfl).symm.trans hf) |>.symm
      obtain rfl : fn = Tryd.f3 := (Option.some.inj (Tryd.func3.symm.trans hfn)).symm
      exact ⟨by kernel_rfl, fun j t ht => by
        rw [Tryd.params3] at ht
        have hm : t ∈ [9] := by simpa using Array.mem_of_getElem? ht
        have hall : ([9].all fun u => !Tryd.prog.wantsStandIn u) = true := by kernel_rfl
        exact (show Tryd.prog.wantsStandIn t = false by simpa using List.all_eq_true.1 hall t hm)⟩)
    (by kernel_rfl)
end Go.Proofs.YtocjkeieieknbaaDoor.fnExactDocSum
namespace Go.Proofs.YtocjkeieieknbaaDoor
/-- The card, under a short name, for the claim. -/
theorem fnExactDocSum_holds : Rows.FnExactDocSumCardSaid := fnExactDocSum.proved
end Go.Proofs.YtocjkeieieknbaaDoor
