/- Marks over values and nodes. -/
import Derived.Test.YtghbkljdpikpdaaGg
set_option linter.unusedVariables false
set_option linter.unusedSimpArgs false
set_option maxRecDepth 100000
namespace Go.Proofs.Ytghbkljdpikpdaa
open Go.Sh
variable {gl : Nat → Option D}
theorem l_markRow (e : Bool) (lv : List Val) (X : Ld) (hX : X.sh = skR e lv.length (valsSk e lv)) (S1 : St) (z : Int) (q : Nat) (hz : z = (q : Int)) (h1 : 1 ≤ q) (hq : q + cntVs lv ≤ 1073741824) (hv1 : ∀ p ∈ X.vars, S1.B p.1 = some p.2 ∧ p.1 < S1.nx) (hv2 : (X.vars.map (fun p => p.1)).Nodup) :
    ∃ S', LCall Try.prog 43 [X.sv, .d (dI z)] S1 (.d (dI ((q + cntVs lv : Nat) : Int))) S' ∧ Marked S1 S' (rowMap (fun cs => markLds lv cs q) X).vars := by
  subst hz
  rcases ld_row hX with ⟨rfl, h0, _⟩ | ⟨bx, csx, rfl, h2, _⟩
  · have : lv = [] := List.eq_nil_of_length_eq_zero h0
    subst this
    exact ⟨S1, LCall.ofP (k := 1) (p_markValueS_nil (gl := S1.gl) q) rfl, Marked.refl S1⟩
  · have hids := (markLds_sh lv csx q h2).2
    refine ⟨_, l_markValueS e lv S1 bx q csx h2 ⟨?_, ?_, ?_⟩ (by omega) (by omega), ?_⟩
    · simpa [varsL] using fun p hp => (hv1 p hp).1
    · simpa [varsL] using hv2
    · simpa [varsL] using fun p hp => (hv1 p hp).2
    · refine Marked.left ?_
      simp only [ids] at hids
      simp only [List.map_cons, hids]
      simpa [Ld.vars] using hv2
theorem rowMap_ids {e : Bool} {lv : List Val} {X : Ld} (hX : X.sh = skR e lv.length (valsSk e lv)) (q : Nat) : (rowMap (fun cs => markLds lv cs q) X).vars.map (fun p => p.1) = X.vars.map (fun p => p.1) := by
  rcases ld_row hX with ⟨rfl, h0, _⟩ | ⟨bx, csx, rfl, h1, _⟩
  · rfl
  · have hids := (markLds_sh lv csx q h1).2
    simp only [ids] at hids
    simp only [rowMap_row, Ld.vars, List.map_cons, hids]
theorem markNm_ids {e : Bool} {ns : List ByteArray} {Y : Ld} (hY : Y.sh = skS e ns) (q : Nat) : (markNm Y q).vars.map (fun p => p.1) = Y.vars.map (fun p => p.1) := by
  rcases ld_names hY with ⟨rfl, rfl⟩ | ⟨by_, rfl, _⟩
  · rfl
  · simp [markNm, Ld.vars]
/-- The marks within a value. -/
def markW : List Val → List ByteArray → Ld → Ld → Nat → List (Nat × List SV) := fun lv ns X Y q => (rowMap (fun cs => markLds lv cs q) X).vars ++ (markNm Y (q + cntVs lv)).vars
theorem markW_ids {e : Bool} {lv : List Val} {ns : List ByteArray} {X Y : Ld} (hX : X.sh = skR e lv.length (valsSk e lv)) (hY : Y.sh = skS e ns) (q : Nat) : (markW lv ns X Y q).map (fun p => p.1) = (X.vars ++ Y.vars).map (fun p => p.1) := by
  simp only [markW, List.map_append, rowMap_ids hX, markNm_ids hY]
/-- Two calls, one behind the other: first X, then Y. -/
theorem two_marked {S S1 S2 S2' S3 : St} {VX VY VX' VY' : List (Nat × List SV)} (h1 : Marked S1 S2 VX') (h2 : Marked S2' S3 VY') (hS : ∀ x, x < S.nx → x ∉ VX.map (fun p => p.1) → x ∉ VY.map (fun p => p.1) → S1.B x = S.B x) (hnx : S.nx ≤ S1.nx) (hB : S2'.B = S2.B) (hT : S2'.T = S2.T) (hnx2 : S2.nx ≤ S2'.nx)
    (eX : VX'.map (fun p => p.1) = VX.map (fun p => p.1)) (eY : VY'.map (fun p => p.1) = VY.map (fun p => p.1)) (hd : ((VX ++ VY).map (fun p => p.1)).Nodup) (hlt : ∀ p ∈ VX, p.1 < S1.nx) (hT1 : ∀ x, x < S.nx → S1.T x = S.T x) :
    (∀ p ∈ VX' ++ VY', S3.B p.1 = some p.2) ∧ (∀ x, x < S.nx → x ∉ (VX ++ VY).map (fun p => p.1) → S3.B x = S.B x) ∧ ∀ x, x < S.nx → S3.T x = S.T x := by
  rw [List.map_append] at hd
  obtain ⟨d1, d2, d3⟩ := List.nodup_append.1 hd
  have k : S1.nx ≤ S2'.nx := by rw [h1.nx] at hnx2; exact hnx2
  refine ⟨fun p hp => ?_, fun x hx h => ?_, fun x hx => ?_⟩
  · rcases List.mem_append.1 hp with hp | hp
    · have hx : p.1 ∈ VX.map (fun p => p.1) := by rw [← eX]; exact List.mem_map_of_mem hp
      obtain ⟨p', hp', e⟩ := List.mem_map.1 hx
      have := hlt p' hp'
      rw [h2.old p.1 (by omega) (by rw [eY]; exact fun hy => d3 _ hx _ hy rfl), hB]
      exact h1.own p hp
    · exact h2.own p hp
  · simp only [List.map_append, List.mem_append, not_or] at h
    rw [h2.old x (by omega) (by rw [eY]; exact h.2), hB, h1.old x (by omega) (by rw [eX]; exact h.1)]
    exact hS x hx h.1 h.2
  · rw [h2.T x (by omega), hT, h1.T x (by omega)]
    exact hT1 x hx
set_option maxHeartbeats 1000000 in
theorem l_markValue (e : Bool) (k m : Int) (t : ByteArray) (lv : List Val) (ns : List ByteArray) (X Y : Ld) (hX : X.sh = skR e lv.length (valsSk e lv)) (hY : Y.sh = skS e ns) (S0 : St) (q : Nat) (h1 : 1 ≤ q) (hq : q + cntVs lv + ns.length ≤ 1073741824)
    (hv1 : ∀ p ∈ X.vars ++ Y.vars, S0.B p.1 = some p.2 ∧ p.1 < S0.nx) (hv2 : ((X.vars ++ Y.vars).map (fun p => p.1)).Nodup) :
    LCall Try.prog 15 [.ag [.d (dI k), .d (dI m), .d (dS t), X.sv, Y.sv], .d (dI q)] S0 (.d (dI ((q + cntVs lv + ns.length : Nat) : Int))) (leftS S0 0 (markW lv ns X Y q) []) := by
  have hd := hv2
  rw [List.map_append] at hd
  obtain ⟨d1, d2, d3⟩ := List.nodup_append.1 hd
  refine LCall.byE (md := []) (leftS_keeps _ _ _ _) (by simp [SV.lt, ltS]) Try.func15 rfl (by kernel_rfl) (n := 14) Try.ntmps15 (by simp) (by decide) rfl ?_
  simp
  refine CallT_ex (l_markRow e lv X hX _ _ q rfl (by omega) (by omega) (fun p hp => ⟨?_, ?_⟩) d1) (fun S2 hM => ?_)
  · have := hv1 p (by simp [hp])
    simp [show ¬ p.1 = S0.nx by omega, this.1]
  · have := hv1 p (by simp [hp])
    simp; omega
  have hXi := rowMap_ids hX q
  have hYi := markNm_ids hY (q + cntVs lv)
  have hltX : ∀ p ∈ X.vars, p.1 < S0.nx := fun p hp => (hv1 p (by simp [hp])).2
  have hltY : ∀ p ∈ Y.vars, p.1 < S0.nx := fun p hp => (hv1 p (by simp [hp])).2
  have hn2 : S2.n = 14 := by rw [hM.n]; simp
  have hBx : S2.B S0.nx = some [.d (dI k), .d (dI m), .d (dS t), X.sv, Y.sv] := by
    rw [hM.old S0.nx (by simp; omega) (by rw [hXi]; intro h; obtain ⟨p, h1, h2⟩ := List.mem_map.1 h; have := hltX p h1; omega)]
    simp
  have hnx2 : S0.nx ≤ S2.nx := by rw [hM.nx]; first | (simp; done) | (simp; omega)
  have yX : ∀ p ∈ Y.vars, p.1 ∉ X.vars.map (fun p => p.1) := fun p hp h => d3 _ h _ (List.mem_map_of_mem hp) rfl
  simp [hn2, hBx]
  refine CallT_ex (l_markNm e ns Y hY _ _ (q + cntVs lv) (by omega) (by omega) (by omega) (fun p hp => ⟨?_, ?_⟩)) (fun S3 hM3 => ?_)
  · have := hv1 p (by simp [hp])
    show S2.B p.1 = _
    rw [hM.old p.1 (by simp; omega) (by rw [hXi]; exact yX p hp)]
    simp [show ¬ p.1 = S0.nx by omega, this.1]
  · have := hltY p hp
    simp; omega
  have hn3 : S3.n = 14 := by rw [hM3.n]; simpa using hn2
  simp [hn2, hBx, hn3]
  obtain ⟨c1, c2, c3⟩ := two_marked (S := S0) (VX := X.vars) (VY := Y.vars) hM hM3 (fun x hx _ _ => by simp [show ¬ x = S0.nx by omega]) (by simp) rfl rfl (by simp) hXi hYi hv2 (fun p hp => by have := hltX p hp; simp; omega) (fun x hx => rfl)
  have hltV : ∀ p ∈ markW lv ns X Y q, p.1 < S0.nx := fun p hp => by
    have : p.1 ∈ (X.vars ++ Y.vars).map (fun p => p.1) := by rw [← markW_ids hX hY q]; exact List.mem_map_of_mem hp
    obtain ⟨p', h', e'⟩ := List.mem_map.1 this
    rw [← e']; exact (hv1 p' h').2
  refine elder_old (bs := (X.vars ++ Y.vars).map (fun p => p.1)) (ts := []) (fun x hx => ⟨fun h => c2 x hx h, fun _ => c3 x hx⟩) c1 (by simp) (fun p hp => ⟨hltV p hp, ?_⟩) (by simp) (fun x hx _ hl => ?_) (by simp)
  · rcases List.mem_append.1 hp with h | h
    · exact (lt_ld _ fun p' h' => hltV p' (List.mem_append.2 (.inl h'))).2 p h
    · exact (lt_ld _ fun p' h' => hltV p' (List.mem_append.2 (.inr h'))).2 p h
  · exfalso
    rw [← markW_ids hX hY q] at hx
    obtain ⟨p, hp, rfl⟩ := List.mem_map.1 hx
    rw [lookN_of (by rw [markW_ids hX hY q]; exact hv2) hp] at hl; cases hl
end Go.Proofs.Ytghbkljdpikpdaa
