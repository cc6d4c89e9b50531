/- The program's own way to say that a value is ok is the other way. -/
import Derived.Test.YtghbkljdpikpdaaFh
set_option linter.unusedVariables false
set_option linter.unusedSimpArgs false
set_option maxRecDepth 100000
namespace Go.Proofs.Ytghbkljdpikpdaa
open Go.Sh
variable {gl : Nat → Option D}
theorem onceB_nil : onceB [] = true := rfl
theorem plain_names {k n : Int} {t : ByteArray} {l : List Val} {ns : List ByteArray} (h : plainB k n t l.length ns.length = true) (h5 : k ≠ 5) : ns = [] := by
  have hs : ((l.length : Int) + ns.length = 0) → ns = [] := fun h => ((len0 l ns).1 h).2
  rcases plain_kind h with rfl | rfl | rfl | rfl | rfl | rfl | rfl | rfl
  · exact hs (by simp [plainB] at h; exact_mod_cast h.2)
  · exact hs (by simp [plainB] at h; exact_mod_cast h.2)
  · exact hs (by simp [plainB] at h; exact_mod_cast h.2)
  · exact hs (by simp [plainB] at h; exact_mod_cast h.2)
  · simp [plainB] at h; exact h.1.2
  · exact absurd rfl h5
  · exact hs (by simp [plainB] at h; exact_mod_cast h.2)
  · exact hs (by simp [plainB] at h; exact_mod_cast h.2)
theorem form_eq {k n : Int} {t : ByteArray} {l : List Val} {ns : List ByteArray} : formB k n t l.length ns = (plainB k n t l.length ns.length && onceB ns) := by
  unfold formB
  cases hp : plainB k n t l.length ns.length with
  | false => rfl
  | true =>
    by_cases h5 : k = 5
    · simp [h5]
    · have := plain_names hp h5
      subst this
      simp [h5, onceB_nil]
theorem ok_form {k n : Int} {t : ByteArray} {l : List Val} {ns : List ByteArray} {deep : Int} {words : Bool} (h : formB k n t l.length ns = false) : okB (.mk k n t l ns) deep words = false := by
  rw [form_eq, Bool.and_eq_false_iff] at h
  rcases h with h | h <;> simp [okB, h]
theorem ok_in {k n : Int} {t : ByteArray} {l : List Val} {ns : List ByteArray} {deep : Int} {words : Bool} (h : formB k n t l.length ns = true) (hd : ¬ deep < 1) (hk : ¬ 5 < k) : okB (.mk k n t l ns) deep words = oksB l (deep - 1) words := by
  rw [form_eq, Bool.and_eq_true] at h
  simp [okB, h, hd, hk]
theorem ok_word {k n : Int} {t : ByteArray} {l : List Val} {ns : List ByteArray} {deep : Int} {words : Bool} (h : formB k n t l.length ns = true) (hd : ¬ deep < 1) (hk : 5 < k) : okB (.mk k n t l ns) deep words = words ∧ (k = 6 ∨ k = 7) := by
  rw [form_eq, Bool.and_eq_true] at h
  have hk2 : k = 6 ∨ k = 7 := by
    rcases plain_kind h.1 with rfl | rfl | rfl | rfl | rfl | rfl | rfl | rfl <;> first | omega | simp
  have hl : l = [] := by
    have hp := h.1
    rcases hk2 with rfl | rfl
    · exact ((len0 l ns).1 (by simp [plainB] at hp; exact_mod_cast hp.2)).1
    · exact ((len0 l ns).1 (by simp [plainB] at hp; exact_mod_cast hp.2)).1
  subst hl
  refine ⟨?_, hk2⟩
  cases words <;> simp [okB, h, hd, hk, oksB] <;> (try exact h.1)

set_option maxHeartbeats 4000000 in
theorem p_fitsIn (v : Val) (hv : WF v) (most : Int) (free : Bool) (hd : -4611686018427387904 ≤ most) (hd2 : most ≤ 4611686018427387904) : PCall Try.prog gl 55 [v.d, dI most, dB free] (dB (okB v most free)) := by
  match v, hv with
  | .mk k n t l ns, .mk ht hn hl hwf =>
    have ih : ∀ i (hi : i < l.length) (deep : Int), -4611686018427387904 ≤ deep → deep ≤ 4611686018427387904 → PCall Try.prog gl 55 [l[i].d, dI deep, dB free] (dB (okB l[i] deep free)) := fun i hi deep a b =>
      have := List.sizeOf_lt_of_mem (List.getElem_mem hi)
      p_fitsIn l[i] (hwf _ (List.getElem_mem hi)) deep free a b
    refine PCall.by_ (md := []) Try.func55 rfl (by kernel_rfl) (n := 38) Try.ntmps55 (by simp) (by decide) rfl ?_
    simp [Val.cells]
    refine BrT.dec (fun h => ?_) (fun h => ?_)
    · simp [h, okB]
    simp [h, Val.cells]
    have hc := p_itemOf (gl := gl) k n t l ns ht hl hn
    by_cases hf : formB k n t l.length ns = true
    case neg =>
      have hi : itemD k n t l ns = .v .nilIface := if_neg hf
      rw [hi] at hc
      refine CallT.p hc rfl rfl ?_
      simp [ok_form (deep := most) (words := free) (by simpa using hf)]
    by_cases hk : 5 < k
    case pos =>
      obtain ⟨h1, h2⟩ := ok_word (words := free) hf h hk
      rcases h2 with rfl | rfl
      · have hi : itemD 6 n t l ns = .ifc 123 (dS t) := if_pos hf
        rw [hi] at hc
        refine CallT.p hc rfl rfl ?_
        simp [h1]
      · have hi : itemD 7 n t l ns = .ifc 124 (dS t) := if_pos hf
        rw [hi] at hc
        refine CallT.p hc rfl rfl ?_
        simp [h1]
    obtain ⟨T, x, g, hi, hT1, hT2, hm, hg⟩ := p_within (gl := gl) hf hk
    rw [hi] at hc
    refine CallT.p hc rfl rfl ?_
    simp [hT1, hT2]
    refine InvT.p hg (by simp) hm rfl ?_
    simp
    have hok := ok_in (words := free) hf h hk
    have w1 : IntKind.i64.wrap (most - 1) = most - 1 := wrap64 (by omega) (by omega)
    refine LoopT.round (fun E S => ∃ i : Nat, i ≤ l.length ∧ E 1 = some (.d (dI most)) ∧ E 2 = some (.d (dB free)) ∧ E 25 = some (.d (valsD l)) ∧ E 26 = some (.d (dI l.length)) ∧ E 27 = some (.d (dI i)) ∧ (∀ j, j < i → okB (vl l j) (most - 1) free = true)) (upTo 27 l.length) ⟨0, by simp⟩ ?_
    rintro E S hk ⟨i, hi, h1, h2, h25, h26, h27, hp⟩
    have gn : S.n = 38 := by simpa using hk.n
    have hgl : S.gl = gl := by simpa using hk.gl
    have w : IntKind.i64.wrap ((i : Int) + 1) = (i : Int) + 1 := wrap64 (by omega) (by omega)
    simp [h1, h2, h25, h26, h27, gn]
    refine BrT.dec (fun h => ?_) (fun h => ?_)
    · have hi2 : i < l.length := by omega
      have hlen := valsCells_len l
      have hfit : i * 5 + 5 ≤ l.length * 5 := by omega
      simp [h1, h2, h25, h26, h27, gn, hi2, hlen, hfit, valsCells_at, w1, cells_len]
      refine CallT.p (ih i hi2 (most - 1) (by omega) (by omega)) (by first | rfl | simp [hgl]) (by simp) ?_
      simp [h1, h2, h25, h26, h27, gn]
      refine BrT.mk (fun hb => ?_) (fun hb => ?_)
      · simp [h1, h2, h25, h26, h27, gn, hb, w]
        exact ⟨⟨i + 1, by omega, rfl, next_all hp (by rw [val_at hi2]; exact hb)⟩, upTo_lt h27 (by simp) hi2⟩
      · have : oksB l (most - 1) free = false := by rw [oksB_all, allTo_false hi2 (by rw [val_at hi2]; exact hb)]
        simp [h1, h2, h25, h26, h27, gn, hb, hok, this]
    · have hi3 : i = l.length := by omega
      have : oksB l (most - 1) free = true := by rw [oksB_all]; exact allTo_true (fun j hj => hp j (by omega))
      simp [h1, h2, h25, h26, h27, gn, hok, this]
  termination_by SizeOf.sizeOf v
  decreasing_by
  simp_wf
  omega
end Go.Proofs.Ytghbkljdpikpdaa
