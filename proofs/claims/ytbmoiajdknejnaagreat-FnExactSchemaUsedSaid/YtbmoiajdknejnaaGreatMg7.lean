/- What is read as arguments, fields, definitions is that. -/
import Derived.Test.YtbmoiajdknejnaaGreatMg6
import Derived.Test.YtbmoiajdknejnaaGreatMg4
set_option linter.unusedVariables false
set_option linter.unusedSimpArgs false
set_option maxRecDepth 100000
namespace Go.Proofs.YtbmoiajdknejnaaGreat
open Go.Sh
theorem opens_arg (n : Nat) : Opens Tryz.prog n 379 10 Arg.cells ArgOk := by
  cases n with
  | zero => exact Opens.zero
  | succ n =>
    refine Opens.map (fun p : ByteArray × Typ × Bool × Val × Unit => Arg.mk p.1 p.2.1 p.2.2.1 p.2.2.2.1) ?_ ?_ (OpensFrom.struct (by kernel_rfl) (by kernel_rfl)
      (.cons (k := 1) (s := 9) (by kernel_rfl) (by kernel_rfl) (Opens.string (by kernel_rfl) n)
      (.cons (k := 3) (s := 257) (by kernel_rfl) (by kernel_rfl) (opens_typ n)
      (.cons (k := 1) (s := 4) (by kernel_rfl) (by kernel_rfl) (Opens.bool (by kernel_rfl) n)
      (.cons (k := 5) (s := 77) (by kernel_rfl) (by kernel_rfl) (opens_val n) .nil)))))
    · intro p _; simp [Arg.cells]
    · rintro ⟨a, b, c, d, u⟩ ⟨h1, h2, h3, h4, _⟩
      exact ⟨Nat.le_trans h1 (by omega), h2, h4⟩
theorem opens_fld (n : Nat) : Opens Tryz.prog n 299 5 Fld.cells FldOk := by
  cases n with
  | zero => exact Opens.zero
  | succ n =>
    refine Opens.map (fun p : ByteArray × List Arg × Typ × Unit => Fld.mk p.1 p.2.1 p.2.2.1) ?_ ?_ (OpensFrom.struct (by kernel_rfl) (by kernel_rfl)
      (.cons (k := 1) (s := 9) (by kernel_rfl) (by kernel_rfl) (Opens.string (by kernel_rfl) n)
      (.cons (k := 1) (s := 297) (by kernel_rfl) (by kernel_rfl) (opens_row (k := 10) (by_ := 152) (s := 379) (by kernel_rfl) (by kernel_rfl) (by omega) (by kernel_rfl) (by omega) opens_arg n)
      (.cons (k := 3) (s := 257) (by kernel_rfl) (by kernel_rfl) (opens_typ n) .nil))))
    · intro p _; simp [Fld.cells, args_row]
    · rintro ⟨a, b, c, u⟩ ⟨h1, h2, h3, _⟩
      exact ⟨Nat.le_trans h1 (by omega), h2, h3⟩
theorem opens_def (n : Nat) : Opens Tryz.prog n 118 4 Def.cells DefOk := by
  cases n with
  | zero => exact Opens.zero
  | succ n =>
    refine Opens.map (fun p : ByteArray × Int × List Fld × List ByteArray × Unit => Def.mk p.1 p.2.1 p.2.2.1 p.2.2.2.1) ?_ ?_ (OpensFrom.struct (by kernel_rfl) (by kernel_rfl)
      (.cons (k := 1) (s := 9) (by kernel_rfl) (by kernel_rfl) (Opens.string (by kernel_rfl) n)
      (.cons (k := 1) (s := 3) (by kernel_rfl) (by kernel_rfl) (Opens.int (k := .i64) (by kernel_rfl) n)
      (.cons (k := 1) (s := 116) (by kernel_rfl) (by kernel_rfl) (opens_row (k := 5) (by_ := 88) (s := 299) (by kernel_rfl) (by kernel_rfl) (by omega) (by kernel_rfl) (by omega) opens_fld n)
      (.cons (k := 1) (s := 27) (by kernel_rfl) (by kernel_rfl) (opens_names _ (by kernel_rfl) n) .nil)))))
    · intro p _; simp [Def.cells, flds_row]
    · unfold IntKind.min IntKind.max
      rintro ⟨a, b, c, d, u⟩ ⟨h1, h2, h3, h4, _⟩
      exact ⟨Nat.le_trans h1 (by omega), h3, names_ok h4⟩
theorem opens_defs : ∀ n, Opens Tryz.prog n 42 1 (fun l : List Def => [.ps (l.flatMap Def.cells) l.length]) (fun l => l.length ≤ 4611686018427387904 ∧ ∀ x ∈ l, DefOk x) :=
  opens_row (k := 4) (by_ := 72) (by kernel_rfl) (by kernel_rfl) (by omega) (by kernel_rfl) (by omega) opens_def
end Go.Proofs.YtbmoiajdknejnaaGreat
