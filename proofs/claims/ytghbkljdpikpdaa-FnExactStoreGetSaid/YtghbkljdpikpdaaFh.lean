/- The program's own way to say that a value is ok. -/
import Derived.Test.YtghbkljdpikpdaaFg
set_option linter.unusedVariables false
set_option linter.unusedSimpArgs false
set_option maxRecDepth 100000
namespace Go.Proofs.Ytghbkljdpikpdaa
open Go.Sh
variable {gl : Nat → Option D}
theorem p_nullWithin : PCall Try.prog gl 193 [.agg []] (.ps [] 0) := by
  refine PCall.by_ (md := []) Try.func193 rfl (by kernel_rfl) (n := 3) Try.ntmps193 (by simp) (by decide) rfl ?_
  simp
theorem p_boolWithin (b : Bool) : PCall Try.prog gl 194 [dB b] (.ps [] 0) := by
  refine PCall.by_ (md := []) Try.func194 rfl (by kernel_rfl) (n := 3) Try.ntmps194 (by simp) (by decide) rfl ?_
  simp
theorem p_numWithin (n : Int) : PCall Try.prog gl 195 [dI n] (.ps [] 0) := by
  refine PCall.by_ (md := []) Try.func195 rfl (by kernel_rfl) (n := 3) Try.ntmps195 (by simp) (by decide) rfl ?_
  simp
theorem p_textWithin (s : ByteArray) : PCall Try.prog gl 196 [dS s] (.ps [] 0) := by
  refine PCall.by_ (md := []) Try.func196 rfl (by kernel_rfl) (n := 3) Try.ntmps196 (by simp) (by decide) rfl ?_
  simp
theorem p_listWithin (l : List Val) : PCall Try.prog gl 197 [valsD l] (valsD l) := by
  refine PCall.by_ (md := []) Try.func197 rfl (by kernel_rfl) (n := 4) Try.ntmps197 (by simp) (by decide) rfl ?_
  simp
theorem p_treeWithin (ns : List ByteArray) (l : List Val) : PCall Try.prog gl 198 [.agg [namesD ns, valsD l]] (valsD l) := by
  refine PCall.by_ (md := []) Try.func198 rfl (by kernel_rfl) (n := 5) Try.ntmps198 (by simp) (by decide) rfl ?_
  simp

theorem plain_kind {k n : Int} {t : ByteArray} {ll ln : Nat} (h : plainB k n t ll ln = true) : k = 0 ∨ k = 1 ∨ k = 2 ∨ k = 3 ∨ k = 4 ∨ k = 5 ∨ k = 6 ∨ k = 7 := by
  by_cases h0 : k = 0; · exact .inl h0
  by_cases h1 : k = 1; · exact .inr (.inl h1)
  by_cases h2 : k = 2; · exact .inr (.inr (.inl h2))
  by_cases h3 : k = 3; · exact .inr (.inr (.inr (.inl h3)))
  by_cases h4 : k = 4; · exact .inr (.inr (.inr (.inr (.inl h4))))
  by_cases h5 : k = 5; · exact .inr (.inr (.inr (.inr (.inr (.inl h5)))))
  by_cases h6 : k = 6; · exact .inr (.inr (.inr (.inr (.inr (.inr (.inl h6))))))
  by_cases h7 : k = 7; · exact .inr (.inr (.inr (.inr (.inr (.inr (.inr h7))))))
  simp [plainB, h0, h1, h2, h3, h4, h5, h6, h7] at h

/-- What is within: behind the interface. -/
theorem p_within {k n : Int} {t : ByteArray} {l : List Val} {ns : List ByteArray} (hf : formB k n t l.length ns = true) (hk : ¬ 5 < k) :
    ∃ T x g, itemD k n t l ns = .ifc T x ∧ T ≠ 123 ∧ T ≠ 124 ∧ methOf Try.prog T "loop.example/pergola/impl.within" = some g ∧ PCall Try.prog gl g [x] (valsD l) := by
  have hp : plainB k n t l.length ns.length = true := by simp only [formB, Bool.and_eq_true] at hf; exact hf.1
  unfold itemD
  rw [if_pos hf]
  have nil : ∀ (hs : ((l.length : Int) + ns.length = 0)), valsD l = .ps [] 0 := fun hs => by
    obtain ⟨rfl, _⟩ := (len0 l ns).1 hs
    rfl
  rcases plain_kind hp with rfl | rfl | rfl | rfl | rfl | rfl | rfl | rfl
  · have := nil (by simp [plainB] at hp; exact_mod_cast hp.2)
    rw [this]
    exact ⟨162, .agg [], 193, rfl, by decide, by decide, by kernel_rfl, p_nullWithin⟩
  · have := nil (by simp [plainB] at hp; exact_mod_cast hp.2)
    rw [this]
    exact ⟨163, _, 194, rfl, by decide, by decide, by kernel_rfl, p_boolWithin _⟩
  · have := nil (by simp [plainB] at hp; exact_mod_cast hp.2)
    rw [this]
    exact ⟨164, _, 195, rfl, by decide, by decide, by kernel_rfl, p_numWithin _⟩
  · have := nil (by simp [plainB] at hp; exact_mod_cast hp.2)
    rw [this]
    exact ⟨165, _, 196, rfl, by decide, by decide, by kernel_rfl, p_textWithin _⟩
  · exact ⟨166, _, 197, rfl, by decide, by decide, by kernel_rfl, p_listWithin l⟩
  · exact ⟨168, _, 198, rfl, by decide, by decide, by kernel_rfl, p_treeWithin ns l⟩
  · omega
  · omega
end Go.Proofs.Ytghbkljdpikpdaa
