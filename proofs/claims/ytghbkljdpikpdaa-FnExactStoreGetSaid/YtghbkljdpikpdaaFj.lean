/- Values compared with themselves, their sizes, their copies. -/
import Derived.Test.YtghbkljdpikpdaaFi
set_option linter.unusedVariables false
set_option linter.unusedSimpArgs false
set_option maxRecDepth 100000
namespace Go.Proofs.Ytghbkljdpikpdaa
open Go.Sh
variable {gl : Nat → Option D}
set_option maxHeartbeats 1000000 in
theorem p_eqValueS_of (l : List Val) (hl : l.length ≤ 4611686018427387904) (ih : ∀ i (h : i < l.length), PCall Try.prog gl 12 [l[i].d, l[i].d] (dB true)) : PCall Try.prog gl 39 [valsD l, valsD l] (dB true) := by
  refine PCall.by_ (md := []) Try.func39 rfl (by kernel_rfl) (n := 27) Try.ntmps39 (by simp) (by decide) rfl ?_
  simp
  refine LoopT.round (fun E S => ∃ i : Nat, i ≤ l.length ∧ E 0 = some (.d (valsD l)) ∧ E 1 = some (.d (valsD l)) ∧ E 5 = some (.d (dI i))) (upTo 5 l.length) ⟨0, by simp⟩ ?_
  rintro E S hk ⟨i, hi, h0, h1, h5⟩
  have hn : S.n = 27 := by simpa using hk.n
  have hg : S.gl = gl := by simpa using hk.gl
  have w : IntKind.i64.wrap ((i : Int) + 1) = (i : Int) + 1 := wrap64 (by omega) (by omega)
  simp [h0, h1, h5, hn]
  refine BrT.dec (fun h => ?_) (fun h => ?_)
  · have hi2 : i < l.length := by omega
    have hlen := valsCells_len l
    have hfit : i * 5 + 5 ≤ l.length * 5 := by omega
    simp [h0, h1, h5, hn, hi2, hlen, hfit, valsCells_at]
    refine ⟨DrawT.mk (by kernel_rfl), ?_⟩
    refine CallT.p (ih i hi2) (by first | rfl | simp [hg]) rfl ?_
    simp [h0, h1, h5, hn, w]
    exact ⟨⟨i + 1, by omega, rfl⟩, upTo_lt h5 (by simp) hi2⟩
  · simp [h0, h1, h5, hn]

set_option maxHeartbeats 1000000 in
theorem p_eqValue (v : Val) (hv : WF v) : PCall Try.prog gl 12 [v.d, v.d] (dB true) := by
  match v, hv with
  | .mk k n t l ns, .mk ht hn hl hwf =>
    have hs := p_eqValueS_of (gl := gl) l hl (fun i hi =>
      have := List.sizeOf_lt_of_mem (List.getElem_mem hi)
      p_eqValue l[i] (hwf _ (List.getElem_mem hi)))
    refine PCall.by_ (md := []) Try.func12 rfl (by kernel_rfl) (n := 32) Try.ntmps12 (by simp) (by decide) rfl ?_
    have hnl := hn.1
    simp [Val.cells]
    refine CallT.p hs rfl rfl ?_
    simp [Val.cells]
    refine CallT.p (p_eqStringS ns (by omega)) rfl rfl ?_
    simp
  termination_by SizeOf.sizeOf v
  decreasing_by
  simp_wf
  omega

/-! ### sizes -/
mutual
def szV : Val → Int → Int
  | .mk _ _ t l ns, left => if left - t.size < 0 then -1 else if szVs l (left - t.size) < 0 then -1 else if szNames ns (szVs l (left - t.size)) < 0 then -1 else szNames ns (szVs l (left - t.size))
def szVs : List Val → Int → Int
  | l, left => if left - l.length < 0 then -1 else szVgo l (left - l.length)
def szVgo : List Val → Int → Int
  | [], r => r
  | v :: l, r => if szV v r < 0 then -1 else szVgo l (szV v r)
end
end Go.Proofs.Ytghbkljdpikpdaa
