/- FnExactCacheOk: for every cache that is handed in, the law answers true and leaves its argument as it was. -/
import Derived.Test.YtocjkeieieknbaaRows
import Derived.Test.YtocjkeieieknbaaPFnExactCacheOkx3
import Derived.Test.YtocjkeieieknbaaPureFnExactCacheOk
import Derived.WalkKit
import Derived.ProofKit
import Derived.OpenShut
import Derived.ShutString
import Derived.ChangeOld
import Derived.Below
import Derived.SizedLaws
import Derived.SliceStrings
import Derived.Lib.SmallJoins
namespace Go.Proofs.Ytocjkeieieknbaa.fnExactCacheOk
open Go.ChangeShapes Go.WideShapes Go.ChangeAt Go.RowKit Go.Joins
open Go.Proofs.YtocjkeieieknbaaW.PrintWords
set_option linter.unusedVariables false
theorem own : ownKnob Try.prog.godebug = none := by kernel_rfl
theorem laidOut : laidOutB Try.prog = true := by kernel_rfl
theorem cells22 : Try.prog.cellsOf 22 = 1 := by kernel_rfl
theorem cells9 : Try.prog.cellsOf 9 = 1 := by kernel_rfl
theorem bytes9 : Try.prog.bytesOf 9 = 16 := by kernel_rfl

theorem weights_strs {H : Type} : ∀ (l : List ByteArray) (s : ByteArray), s ∈ l → s.data.toList.length ∈ DataW.weightsAll (H := H) Try.prog 9 (strs l)
  | [], s, h => by simp at h
  | x :: l, s, h => by
    simp only [strs, List.map_cons, DataW.weightsAll, DataW.weights, List.mem_append, List.mem_singleton]
    rcases List.mem_cons.1 h with rfl | h
    · exact .inl rfl
    · exact .inr (weights_strs l s h)
/-- A list of texts that comes in: what it reads as, and how great it may be. -/
theorem open_texts {H : Type} {enc : TypeId × Value → H} {W : World} {fuel : Nat} {v : Value} {x : DataW H × List MemPlace}
    (h : DataW.trod enc Try.prog W 0 (fun _ => true) true fuel 22 [v] = some x) (hw : ∀ n ∈ x.1.weights Try.prog 22, n ≤ reachBytes) :
    ∃ A c l, v = .slice A l.length c ∧ l.length ≤ c ∧ Kd.C Kd.string W A l.length l ∧ (∀ s ∈ l, s.size ≤ maxLen) ∧ l.length * 16 ≤ 140737488351232 ∧ (∀ s ∈ l, s.size ≤ 140737488351232) := by
  rcases open_strings Try.underlying22 Try.underlying9 cells9 h with ⟨hcs, _⟩ | ⟨a, len, cap, ss, hcs, _, hl, hm, hz, hx, hcell, hws⟩
  · simp only [List.cons.injEq, and_true] at hcs
    subst hcs
    exact ⟨none, 0, [], rfl, by simp, Kd.C_of_reads (d := ByteArray.empty) (h1 := fun _ => rfl) ⟨rfl, by simp, fun h => absurd h (by simp)⟩, by simp, by simp, by simp⟩
  · simp only [List.cons.injEq, and_true] at hcs
    subst hcs
    simp only [if_true] at hz
    have hlen : (ss.take len).length = len := by simp; omega
    have hsz : len * 16 ≤ 140737488351232 := by
      have := hw ((len + (cap - len)) * 16) (by
        rw [hx]; simp only [DataW.weights, Try.underlying22, List.mem_cons]
        left
        rw [bytes9]; simp [strs, hz]; omega)
      unfold reachBytes at this
      omega
    refine ⟨some a, cap, ss.take len, by rw [hlen], by rw [hlen]; exact hl, ?_, fun s hs => hws s (List.mem_of_mem_take hs), by rw [hlen]; exact hsz, fun s hs => ?_⟩
    rotate_left
    · have := hw s.data.toList.length (by
        rw [hx]; simp only [DataW.weights, Try.underlying22, List.mem_cons, List.mem_append]
        exact .inr (.inl (weights_strs _ s hs)))
      unfold reachBytes at this
      simpa using this
    refine Kd.C_of_reads (d := ByteArray.empty) (h1 := fun _ => rfl) ⟨rfl, by rw [hlen]; unfold maxLen at hm; omega, fun _ => ⟨a, rfl, fun j hj => ?_⟩⟩
    rw [hlen] at hj
    rw [hcell j (by omega)]
    simp only [List.getD_eq_getElem?_getD, List.getElem?_take, if_pos hj]

theorem at_size (l : List ByteArray) (h : ∀ s ∈ l, s.size ≤ maxLen) (h16 : ∀ s ∈ l, s.size ≤ 140737488351232) : ∀ i : Nat, (rdOf ByteArray.empty l (i : Int)).size < 4611686018427387904 := by
  intro i
  simp only [rdOf, Int.toNat_natCast, List.getD_eq_getElem?_getD]
  cases he : l[i]? with
  | none => exact (by decide : (ByteArray.empty).size < 4611686018427387904)
  | some s =>
    have := h16 s (List.mem_of_getElem? he)
    simp only [Option.getD_some]
    omega

set_option maxRecDepth 100000 in
theorem lifted (os : Os) (started : os.Started) (H : Type) (enc : TypeId × Value → H) :
    ReturnsInHanded {} Try.checked os 3 .any (Rows.fnExactCacheOkSpec.pre6 enc Try.prog Try.f3 Rows.fnExactCacheOkRow.domain false) (Rows.fnExactCacheOkSpec.post enc Try.prog Try.f3 false true false false) := by
  refine returnsInHanded_of_change_sized (C := Try.checked) own started (by kernel_rfl) Try.func3
    (ChangeSpec.witness6 (enc := enc) (C := Try.checked) false ⟨#[], #[.agg #[.slice none 0 0, .slice none 0 0]], []⟩ 8 (by kernel_rfl) (by kernel_rfl) (by kernel_rfl) (by kernel_rfl)) ?_
  intro W base args ds gs before hval0 hW hcnd hsz0 _
  have hsz : (DataW.weightsEach Try.prog (Try.f3.params.toList ++ Rows.fnExactCacheOkSpec.plain.varTypes Try.prog) (ds ++ gs)).all (· ≤ reachBytes) = true := hsz0
  have hval : ∀ (j : Nat) t v, Try.f3.params[j]? = some t → args[j]? = some v → Value.okWide Try.prog W .any base t v := hval0
  have hW' := hW
  obtain ⟨p, q, hA0, hV, rfl, hfz, hnd⟩ := hW
  have hA : DataW.TrodAll enc Try.prog W 0 (fun _ => true) true Try.f3.params.toList args.toList ds p := hA0
  rw [Try.params3] at hA hval hsz
  obtain ⟨v0, vs0, d0, ds0, p0, q0, hargs, rfl, rfl, h0, r0⟩ := trodAll_cons hA
  obtain ⟨rfl, rfl, rfl⟩ := trodAll_nil r0
  obtain rfl : args = #[v0] := by cases args; simp_all
  obtain ⟨rfl, rfl⟩ := trodVars_none hV
  have k0 := h0
  have lt0 : ∀ x ∈ p0, x.block < W.heap.size := by obtain ⟨m, hm⟩ := k0; exact DataW.trod_lt m _ _ _ hm
  obtain ⟨u0, u1, y0, y1, n, rfl, rfl, rfl, g0, g1⟩ := open_agg2 Try.underlying24 (by kernel_rfl) (by kernel_rfl) (hval 0 24 v0 rfl rfl) h0
  have hall : ∀ m ∈ DataW.weights Try.prog 24 (.agg [y0.1, y1.1]), m ≤ reachBytes := by
    intro m hm
    have := List.all_eq_true.1 hsz m (DataW.weights_mem_each (j := 0) (t := 24) (d := .agg [y0.1, y1.1]) rfl rfl m hm)
    simpa using this
  have hw0 : ∀ m ∈ y0.1.weights Try.prog 22, m ≤ reachBytes := fun m hm => hall m (by
    simp only [DataW.weights, Try.underlying24, List.map_cons, List.map_nil, DataW.weightsEach, List.append_nil, List.mem_append]
    exact .inl hm)
  have hw1 : ∀ m ∈ y1.1.weights Try.prog 22, m ≤ reachBytes := fun m hm => hall m (by
    simp only [DataW.weights, Try.underlying24, List.map_cons, List.map_nil, DataW.weightsEach, List.append_nil, List.mem_append]
    exact .inr hm)
  obtain ⟨A0, c0, l0, rfl, hc0, hr0, hs0, hn0, hb0⟩ := open_texts g0 hw0
  obtain ⟨A1, c1, l1, rfl, hc1, hr1, hs1, hn1, hb1⟩ := open_texts g1 hw1
  clear hA0 hval0 hsz0 hsz
  obtain ⟨k, hk⟩ := PureFnExactCacheOk.law l0 l1 (at_size l0 hs0 hb0) (by omega) (at_size l1 hs1 hb1) (by omega)
  refine (PFnExactCacheOk.laws_FnExactCacheOk.calls k A0 c0 l0 A1 c1 l1 true W hr0 hc0 hr1 hc1 hk).mono fun e W' ⟨he, bel⟩ => ?_
  subst he
  exact ⟨_, rfl, _, _, _, [], _, [], hW', trodAll_mk1 (shut_bool Try.underlying4 _), (trodAll_cons_mk (Below.trod laidOut (by kernel_rfl) (of_decide_eq_true (by kernel_rfl)) k0 bel lt0) trodAll_mk0), rfl, bel.frame _, fun h => by cases h⟩

theorem over : Rows.fnExactCacheOkRow.holds Try.pinned (OpenSpec.ofChange Rows.fnExactCacheOkSpec) :=
  OpenClaim.holds_of_wide 3 Try.f3 rfl rfl rfl rfl rfl rfl rfl ⟨rfl, rfl, rfl, rfl, rfl⟩ rfl rfl rfl rfl rfl (by kernel_rfl) Try.func3 (by kernel_rfl)
    (of_decide_eq_true (by kernel_rfl)) (by unfold Func.isWrapper; first | (rw [if_pos (by decide +kernel)]; kernel_rfl) | (rw [if_neg (by decide +kernel)]; exact ⟨rfl, rfl⟩))
    (fun os started H enc _ => lifted os started H enc)
theorem proved : Rows.FnExactCacheOkSaid := over
end Go.Proofs.Ytocjkeieieknbaa.fnExactCacheOk
namespace Go.Proofs.Ytocjkeieieknbaa
/-- The row, under a short name, for the claim. -/
theorem fnExactCacheOk_holds : Rows.FnExactCacheOkSaid := fnExactCacheOk.proved
end Go.Proofs.Ytocjkeieieknbaa
