/- Values: what they are, and what the functions on a value's own form come to. -/
import Derived.Test.YtghbkljdpikpdaaFd
set_option linter.unusedVariables false
set_option linter.unusedSimpArgs false
set_option maxRecDepth 100000
namespace Go.Proofs.Ytghbkljdpikpdaa
open Go.Sh
variable {gl : Nat → Option D}
/-- A value: kind, number, text, list, names. -/
inductive Val where
  | mk (kind num : Int) (text : ByteArray) (list : List Val) (names : List ByteArray)
  deriving Inhabited
mutual
def Val.cells : Val → List D
  | .mk k n t l ns => [dI k, dI n, dS t, .ps (valsCells l) l.length, namesD ns]
def valsCells : List Val → List D
  | [] => []
  | v :: r => v.cells ++ valsCells r
end
abbrev Val.d (v : Val) : D := .agg v.cells
abbrev valsD (l : List Val) : D := .ps (valsCells l) l.length
theorem cells_len (v : Val) : v.cells.length = 5 := by cases v; rfl
@[simp] theorem take_cells (v : Val) : v.cells.take 5 = v.cells := List.take_of_length_le (by rw [cells_len]; exact Nat.le_refl _)
@[simp] theorem take_cellsS (v : Val) : (v.cells.map SV.d).take 5 = v.cells.map SV.d := List.take_of_length_le (by rw [List.length_map, cells_len]; exact Nat.le_refl _)
theorem valsCells_row : ∀ l : List Val, valsCells l = l.flatMap Val.cells
  | [] => by simp [valsCells]
  | v :: r => by rw [valsCells, valsCells_row r, List.flatMap_cons]
theorem valsCells_len (l : List Val) : (valsCells l).length = l.length * 5 := by rw [valsCells_row, row_len cells_len]
theorem valsCells_at (l : List Val) {i : Nat} (hi : i < l.length) : ((valsCells l).drop (i * 5)).take 5 = (l[i]).cells := by rw [valsCells_row, row_at cells_len l i hi]
inductive WF : Val → Prop
  | mk {k n : Int} {t : ByteArray} {l : List Val} {ns : List ByteArray} (ht : t.size ≤ 4611686018427387904) (hn : NamesOk ns) (hl : l.length ≤ 4611686018427387904) (h : ∀ v ∈ l, WF v) : WF (.mk k n t l ns)

/-- Nothing but what the kind needs. -/
def plainB (k n : Int) (t : ByteArray) (ll ln : Nat) : Bool :=
  if k = 0 then decide (n = 0) && decide (t = ⟨#[]⟩) && decide ((ll : Int) + ln = 0)
  else if k = 1 then decide (0 ≤ n) && decide (n ≤ 1) && decide (t = ⟨#[]⟩) && decide ((ll : Int) + ln = 0)
  else if k = 2 then decide (-2147483647 ≤ n) && decide (n ≤ 2147483647) && decide (t = ⟨#[]⟩) && decide ((ll : Int) + ln = 0)
  else if k = 3 then decide (n = 0) && decide ((t.size : Int) ≤ 40) && decide ((ll : Int) + ln = 0)
  else if k = 4 then decide (n = 0) && decide (t = ⟨#[]⟩) && decide ((ln : Int) = 0) && decide ((ll : Int) ≤ 12)
  else if k = 5 then decide (n = 0) && decide (t = ⟨#[]⟩) && decide ((ln : Int) = ll) && decide ((ll : Int) ≤ 12)
  else if k = 6 ∨ k = 7 then decide (n = 0) && nameB t && decide ((ll : Int) + ln = 0)
  else false

set_option maxHeartbeats 4000000 in
theorem p_l1Plain (k n : Int) (t : ByteArray) (l : List Val) (ns : List ByteArray) (ht : t.size ≤ 4611686018427387904) (hl : l.length ≤ 4611686018427387904) (hn : ns.length ≤ 4611686018427387903) : PCall Try.prog gl 92 [(Val.mk k n t l ns).d] (dB (plainB k n t l.length ns.length)) := by
  refine PCall.by_ (md := []) Try.func92 rfl (by kernel_rfl) (n := 154) Try.ntmps92 (by simp) (by decide) rfl ?_
  have w : IntKind.i64.wrap ((l.length : Int) + ns.length) = (l.length : Int) + ns.length := wrap64 (by omega) (by omega)
  simp [Val.cells]
  repeat' first
    | (refine BrT.dec (fun h => ?_) (fun h => ?_) <;> simp [h, Val.cells, w])
    | (refine CallT.p (p_l1In _ _ _) rfl rfl ?_; simp [Val.cells, w])
    | (refine CallT.p (p_l1Name _ ht) rfl rfl ?_; simp [Val.cells, w])
    | (refine BrT.mk (fun h => ?_) (fun h => ?_) <;> simp [h, Val.cells, w])
  all_goals (clear w ht hl hn; simp [plainB, *])
end Go.Proofs.Ytghbkljdpikpdaa
