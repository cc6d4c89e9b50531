/- Is a value ok, down to some depth: both ways of saying so. -/
import Derived.Test.YtghbkljdpikpdaaFf
set_option linter.unusedVariables false
set_option linter.unusedSimpArgs false
set_option maxRecDepth 100000
namespace Go.Proofs.Ytghbkljdpikpdaa
open Go.Sh
variable {gl : Nat → Option D}
mutual
def okB : Val → Int → Bool → Bool
  | .mk k n t l ns, deep, words => !decide (deep < 1) && plainB k n t l.length ns.length && !(!words && decide (5 < k)) && onceB ns && oksB l (deep - 1) words
def oksB : List Val → Int → Bool → Bool
  | [], _, _ => true
  | v :: r, deep, words => okB v deep words && oksB r deep words
end
/-- Value i of a list. -/
def vl (l : List Val) (i : Nat) : Val := l.getD i default
theorem oksB_all {d : Int} {w : Bool} : ∀ l : List Val, oksB l d w = allTo (fun i => okB (vl l i) d w) l.length
  | [] => by simp [oksB, allTo]
  | v :: r => by
    rw [oksB, oksB_all r, Bool.eq_iff_iff, Bool.and_eq_true, allTo_iff, allTo_iff]
    constructor
    · rintro ⟨h1, h2⟩ j hj
      cases j with
      | zero => exact h1
      | succ j => exact h2 j (by simpa using hj)
    · intro h
      exact ⟨h 0 (by simp), fun j hj => h (j + 1) (by simpa using hj)⟩
theorem val_at {l : List Val} {i : Nat} (h : i < l.length) : vl l i = l[i] := by
  unfold vl
  rw [List.getD_eq_getElem?_getD, List.getElem?_eq_getElem h, Option.getD_some]

set_option maxHeartbeats 4000000 in
theorem p_l1Ok (v : Val) (hv : WF v) (deep : Int) (words : Bool) (hd : -4611686018427387904 ≤ deep) (hd2 : deep ≤ 4611686018427387904) : PCall Try.prog gl 66 [v.d, dI deep, dB words] (dB (okB v deep words)) := by
  match v, hv with
  | .mk k n t l ns, .mk ht hn hl hwf =>
    have ih : ∀ i (hi : i < l.length) (deep : Int), -4611686018427387904 ≤ deep → deep ≤ 4611686018427387904 → PCall Try.prog gl 66 [l[i].d, dI deep, dB words] (dB (okB l[i] deep words)) := fun i hi deep a b =>
      have := List.sizeOf_lt_of_mem (List.getElem_mem hi)
      p_l1Ok l[i] (hwf _ (List.getElem_mem hi)) deep words a b
    refine PCall.by_ (md := []) Try.func66 rfl (by kernel_rfl) (n := 47) Try.ntmps66 (by simp) (by decide) rfl ?_
    have hnl := hn.1
    simp [Val.cells]
    repeat' first
      | (refine BrT.dec (fun h => ?_) (fun h => ?_) <;> simp [h, Val.cells])
      | (refine CallT.p (p_l1Plain k n t l ns ht hl hnl) rfl rfl ?_; simp [Val.cells])
      | (refine CallT.p (p_l1Once ns hn) rfl rfl ?_; simp [Val.cells])
      | (refine BrT.mk (fun h => ?_) (fun h => ?_) <;> simp [h, Val.cells])
    all_goals try (clear ih hwf hv hn ht hl hnl; simp [okB, *]; done)
    all_goals
      have hok : okB (.mk k n t l ns) deep words = oksB l (deep - 1) words := by clear ih hwf hv hn ht hl hnl; simp [okB, *]
      have hd1 : 1 ≤ deep := by omega
      have w1 : IntKind.i64.wrap (deep - 1) = deep - 1 := wrap64 (by omega) (by omega)
      refine LoopT.round (fun E S => ∃ i : Nat, i ≤ l.length ∧ E 1 = some (.d (dI deep)) ∧ E 2 = some (.d (dB words)) ∧ E 3 = some (.op 0 0) ∧ E 7 = some (.d (dI i)) ∧ S.B 0 = some [.d (dI k), .d (dI n), .d (dS t), .d (.ps (valsCells l) l.length), .d (namesD ns)] ∧ (∀ j, j < i → okB (vl l j) (deep - 1) words = true)) (upTo 7 l.length) ⟨0, by clear ih hwf hv hn ht hl hnl hok; simp [*]⟩ ?_
      rintro E S hk ⟨i, hi, h1, h2, h3, h7, hB, hp⟩
      have gn : S.n = 47 := by simpa using hk.n
      have hg : S.gl = gl := by simpa using hk.gl
      have w : IntKind.i64.wrap ((i : Int) + 1) = (i : Int) + 1 := wrap64 (by omega) (by omega)
      simp [h1, h2, h3, h7, hB, gn]
      refine BrT.dec (fun h => ?_) (fun h => ?_)
      · have hi2 : i < l.length := by omega
        have hlen := valsCells_len l
        have hfit : i * 5 + 5 ≤ l.length * 5 := by omega
        simp [h1, h2, h3, h7, hB, gn, hi2, hlen, hfit, valsCells_at, w1]
        refine CallT.p (ih i hi2 (deep - 1) (by omega) (by omega)) (by first | rfl | simp [hg]) rfl ?_
        simp [h1, h2, h3, h7, hB, gn]
        refine BrT.mk (fun hb => ?_) (fun hb => ?_)
        · simp [h1, h2, h3, h7, hB, gn, hb, w]
          exact ⟨⟨i + 1, by omega, rfl, next_all hp (by rw [val_at hi2]; exact hb)⟩, upTo_lt h7 (by simp) hi2⟩
        · have : oksB l (deep - 1) words = false := by rw [oksB_all, allTo_false hi2 (by rw [val_at hi2]; exact hb)]
          have fin := hok.trans this
          clear hok this
          simp [h1, h2, h3, h7, hB, gn, hb]
          first | (simpa [‹words = true›] using fin) | (simpa [‹words = false›] using fin)
      · have hi3 : i = l.length := by omega
        have : oksB l (deep - 1) words = true := by rw [oksB_all]; exact allTo_true (fun j hj => hp j (by omega))
        have fin := hok.trans this
        clear hok this
        simp [h1, h2, h3, h7, hB, gn]
        first | (simpa [‹words = true›] using fin) | (simpa [‹words = false›] using fin)
  termination_by SizeOf.sizeOf v
  decreasing_by
  simp_wf
  omega
end Go.Proofs.Ytghbkljdpikpdaa
