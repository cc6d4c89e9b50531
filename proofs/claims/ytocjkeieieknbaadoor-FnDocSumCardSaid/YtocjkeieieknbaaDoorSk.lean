/- FnDocSum: the law. -/
import Derived.Test.YtocjkeieieknbaaDoorSj
import Derived.Test.YtocjkeieieknbaaDoorRd
set_option linter.unusedVariables false
set_option linter.unusedSimpArgs false
set_option maxRecDepth 100000
namespace Go.Proofs.YtocjkeieieknbaaDoor
open Go.Sh
/-- The texts of which one is drawn. -/
def drawn : List ByteArray := [⟨#[]⟩, ⟨#[97, 98, 99]⟩, ⟨#[123, 109, 101, 123, 110, 97, 109, 101, 125, 125]⟩, manyS ⟨#[120]⟩ 55, manyS ⟨#[120]⟩ 64]
theorem drawn_size : ∀ s ∈ drawn, s.size ≤ 64 := by
  have e1 : (manyS ⟨#[120]⟩ 55).size = 55 := manyS_size _ _
  have e2 : (manyS ⟨#[120]⟩ 64).size = 64 := manyS_size _ _
  intro s hs
  simp only [drawn, List.mem_cons, List.not_mem_nil, or_false] at hs
  rcases hs with rfl | rfl | rfl | rfl | rfl
  · decide
  · decide
  · decide
  · omega
  · omega
set_option maxHeartbeats 8000000 in
theorem p_draw (c : List UInt8) (hc : c.length ≤ 140737488351232) : PCall Tryd.prog noGl 9 [codeD c] (dS (ofK (codeOf c) 0 drawn)) := by
  refine PCall.by_ (md := []) Tryd.func9 rfl (by kernel_rfl) (n := 11) Tryd.ntmps9 (by simp) (by decide) rfl ?_
  simp
  obtain ⟨id, hi1, hi2, hL⟩ := l_open (((startS noGl [] 11).adv 1).adv 3) c hc
  refine CallT.l hL rfl ?_
  simp
  repeat refine ⟨DrawT.mk (by kernel_rfl), ?_⟩
  refine CallT.p0 (p_many ⟨#[120]⟩ 55 (by decide) (by decide) (by decide)) (by first | rfl | (simp; done) | (simp; rfl)) ?_
  simp
  repeat refine ⟨DrawT.mk (by kernel_rfl), ?_⟩
  refine CallT.p0 (p_many ⟨#[120]⟩ 64 (by decide) (by decide) (by decide)) (by first | rfl | (simp; done) | (simp; rfl)) ?_
  simp
  refine callOf' (c := codeOf c) (p := 0) drawn (.inl rfl) (by simp [drawn]) (by decide) ⟨?_, ?_, ?_, by omega⟩ (by omega) rfl ?_
  · simp; simp at hi2; omega
  · simp
  · unfold codeOf; simp; omega
  · simp
theorem abc_sum : sumS (sumV ⟨#[97, 98, 99]⟩) = ⟨#[98, 97, 55, 56, 49, 54, 98, 102, 56, 102, 48, 49, 99, 102, 101, 97]⟩ := by kernel_rfl
theorem sumS_size (v : V) : (sumS v).size = 16 := strOfNums_size _
theorem p_lawFnDocSum (c : List UInt8) (hc : c.length ≤ 140737488351232) : PCall Tryd.prog sumGl 4 [codeD c] (dB true) := by
  refine PCall.by_ (md := []) Tryd.func4 rfl (by kernel_rfl) (n := 24) Tryd.ntmps4 (by simp) (by decide) rfl ?_
  simp
  refine BrT.dec (fun h => ?_) (fun h => ?_)
  case refine_1 => simp [h]
  simp [h]
  repeat refine ⟨DrawT.mk (by kernel_rfl), ?_⟩
  refine CallT.p0 (p_draw c hc) (by first | rfl | (simp; done) | (simp; rfl)) ?_
  simp [h]
  have hs := drawn_size _ (ofK_mem (codeOf c) 0 (l := drawn) (by simp [drawn]))
  generalize ofK (codeOf c) 0 drawn = s at *
  refine CallT.p (p_implDocSum s (by omega)) (by simp) rfl ?_
  simp [h]
  repeat refine ⟨DrawT.mk (by kernel_rfl), ?_⟩
  refine CallT.p0 (p_specDocSum s (by omega)) (by first | rfl | (simp; done) | (simp; rfl)) ?_
  simp [h]
  refine CallT.p (p_implDocSum ⟨#[97, 98, 99]⟩ (by decide)) (by simp) rfl ?_
  simp [h, abc_sum]
  refine CallT.p (p_implDocSum s (by omega)) (by simp) rfl ?_
  simp [h, sumS_size]
end Go.Proofs.YtocjkeieieknbaaDoor
