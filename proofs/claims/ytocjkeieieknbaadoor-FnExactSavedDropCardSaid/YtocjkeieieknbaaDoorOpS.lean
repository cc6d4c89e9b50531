/- What is read as saved texts is that. -/
import Derived.Test.YtocjkeieieknbaaDoorSm
import Derived.Test.YtocjkeieieknbaaDoorShP
set_option linter.unusedVariables false
set_option linter.unusedSimpArgs false
set_option maxRecDepth 100000
namespace Go.Proofs.YtocjkeieieknbaaDoor
open Go.Sh
theorem opens_names (t : TypeId) (ht : Tryd.prog.underlying t = some (.slice 9)) : ∀ n, Opens Tryd.prog n t 1 (fun l : List ByteArray => [namesD l]) NamesOk
  | 0 => Opens.zero
  | n + 1 => Opens.map (fun l => l) (fun l _ => by simp only [namesD, map_flat]) (fun l h => ⟨by have := h.1; omega, fun s hs => by have := h.2 s hs; omega⟩)
      (Opens.slice (k := 1) (by_ := 16) (e := fun s : ByteArray => [dS s]) ht (by kernel_rfl) (by omega) (by kernel_rfl) (Opens.string (by kernel_rfl) n))
theorem opens_saved (n : Nat) : Opens Tryd.prog n 29 1 (fun l : List ByteArray => [namesD l]) NamesOk := by
  cases n with
  | zero => exact Opens.zero
  | succ n =>
    refine Opens.map (fun p : List ByteArray × Unit => p.1) (fun p _ => by simp) (fun p h => h.1) (OpensFrom.struct (by kernel_rfl) (by kernel_rfl)
      (.cons (k := 1) (s := 27) (by kernel_rfl) (by kernel_rfl) (opens_names _ (by kernel_rfl) n) .nil))
end Go.Proofs.YtocjkeieieknbaaDoor
