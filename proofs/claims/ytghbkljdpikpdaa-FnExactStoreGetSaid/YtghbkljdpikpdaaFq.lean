/- What is read as values and nodes is that. -/
import Derived.Test.YtghbkljdpikpdaaFp
import Derived.Test.YtghbkljdpikpdaaShP
set_option linter.unusedVariables false
set_option linter.unusedSimpArgs false
set_option maxRecDepth 100000
namespace Go.Proofs.Ytghbkljdpikpdaa
open Go.Sh
theorem opens_names (t : TypeId) (ht : Try.prog.underlying t = some (.slice 9)) : ∀ n, Opens Try.prog n t 1 (fun l : List ByteArray => [namesD l]) (fun l => l.length ≤ 8796093022207 ∧ ∀ s ∈ l, s.size ≤ 140737488351232)
  | 0 => Opens.zero
  | n + 1 => Opens.map (fun l => l) (fun l _ => by simp only [namesD, map_flat]) (fun l h => ⟨by have := h.1; omega, h.2⟩)
      (Opens.slice (k := 1) (by_ := 16) (e := fun s : ByteArray => [dS s]) ht (by kernel_rfl) (by omega) (by kernel_rfl) (Opens.string (by kernel_rfl) n))
theorem names_ok {l : List ByteArray} (h : l.length ≤ 8796093022207 ∧ ∀ s ∈ l, s.size ≤ 140737488351232) : NamesOk l := ⟨by omega, fun s hs => by have := h.2 s hs; omega⟩
theorem opens_val : ∀ n, Opens Try.prog n 38 5 Val.cells WF
  | 0 => Opens.zero
  | n + 1 => by
    have hl : Opens Try.prog n 36 1 (fun l : List Val => [.ps (l.flatMap Val.cells) l.length]) (fun l => l.length ≤ 140737488351232 ∧ ∀ v ∈ l, WF v) := by
      cases n with
      | zero => exact Opens.zero
      | succ m => exact (Opens.slice (k := 5) (by_ := 80) (by kernel_rfl) (by kernel_rfl) (by omega) (by kernel_rfl) (opens_val m)).mono (fun l h => ⟨by have := h.1; omega, h.2⟩)
    refine Opens.map (fun p : Int × Int × ByteArray × List Val × List ByteArray × Unit => Val.mk p.1 p.2.1 p.2.2.1 p.2.2.2.1 p.2.2.2.2.1) ?_ ?_ (OpensFrom.struct (by kernel_rfl) (by kernel_rfl)
      (.cons (k := 1) (s := 3) (by kernel_rfl) (by kernel_rfl) (Opens.int (k := .i64) (by kernel_rfl) n)
      (.cons (k := 1) (s := 3) (by kernel_rfl) (by kernel_rfl) (Opens.int (k := .i64) (by kernel_rfl) n)
      (.cons (k := 1) (s := 9) (by kernel_rfl) (by kernel_rfl) (Opens.string (by kernel_rfl) n)
      (.cons (k := 1) (s := 36) (by kernel_rfl) (by kernel_rfl) hl
      (.cons (k := 1) (s := 25) (by kernel_rfl) (by kernel_rfl) (opens_names _ (by kernel_rfl) n) .nil))))))
    · intro p _; simp [Val.cells, valsCells_row]
    · unfold IntKind.min IntKind.max
      rintro ⟨a, b, c, d, e, u⟩ ⟨h1, h2, h3, h4, h5, _⟩
      exact .mk (by omega) (names_ok h5) (by omega) h4.2
theorem opens_nod (n : Nat) : Opens Try.prog n 61 7 Nod.cells NodOk := by
  cases n with
  | zero => exact Opens.zero
  | succ n =>
    refine Opens.map (fun p : Int × ByteArray × Val × Unit => Nod.mk p.1 p.2.1 p.2.2.1) ?_ ?_ (OpensFrom.struct (by kernel_rfl) (by kernel_rfl)
      (.cons (k := 1) (s := 3) (by kernel_rfl) (by kernel_rfl) (Opens.int (k := .i64) (by kernel_rfl) n)
      (.cons (k := 1) (s := 9) (by kernel_rfl) (by kernel_rfl) (Opens.string (by kernel_rfl) n)
      (.cons (k := 5) (s := 38) (by kernel_rfl) (by kernel_rfl) (opens_val n) .nil))))
    · intro p _; simp [Nod.cells]
    · rintro ⟨a, b, c, u⟩ ⟨h1, h2, h3, _⟩
      exact ⟨Nat.le_trans h2 (by omega), h3⟩
theorem opens_nods : ∀ n, Opens Try.prog n 22 1 (fun l : List Nod => [nodsD l]) (fun l => l.length ≤ 4611686018427387904 ∧ ∀ n ∈ l, NodOk n)
  | 0 => Opens.zero
  | n + 1 => Opens.mono (Opens.slice (k := 7) (by_ := 104) (by kernel_rfl) (by kernel_rfl) (by omega) (by kernel_rfl) (opens_nod n)) (fun l h => ⟨by have := h.1; omega, h.2⟩)
end Go.Proofs.Ytghbkljdpikpdaa
