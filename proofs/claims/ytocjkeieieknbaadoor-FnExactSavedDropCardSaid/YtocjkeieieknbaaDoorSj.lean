/- FnExactDocSum: the law. -/
import Derived.Test.YtocjkeieieknbaaDoorSi
set_option linter.unusedVariables false
set_option linter.unusedSimpArgs false
set_option maxRecDepth 100000
namespace Go.Proofs.YtocjkeieieknbaaDoor
open Go.Sh
theorem p_lawDocSum (s : ByteArray) (hs : s.size ≤ 4611686018427387904) : PCall Tryd.prog sumGl 3 [dS s] (dB true) := by
  refine PCall.by_ (md := []) Tryd.func3 rfl (by kernel_rfl) (n := 15) Tryd.ntmps3 (by simp) (by decide) rfl ?_
  simp
  refine BrT.dec (fun c => ?_) (fun c => ?_)
  case refine_1 => simp [c]
  simp [c]
  repeat refine ⟨DrawT.mk (by kernel_rfl), ?_⟩
  refine CallT.p0 (p_specDocSum s (by omega)) (by first | rfl | (simp; done) | (simp; rfl)) ?_
  simp [c]
  refine CallT.p (p_implDocSum s (by omega)) (by simp) rfl ?_
  simp [c]
end Go.Proofs.YtocjkeieieknbaaDoor
