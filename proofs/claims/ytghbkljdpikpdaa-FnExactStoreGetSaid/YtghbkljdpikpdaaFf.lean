/- A value by its kind. -/
import Derived.Test.YtghbkljdpikpdaaFe
set_option linter.unusedVariables false
set_option linter.unusedSimpArgs false
set_option maxRecDepth 100000
namespace Go.Proofs.Ytghbkljdpikpdaa
open Go.Sh
variable {gl : Nat → Option D}
/-- It has the form of its kind. -/
def formB (k n : Int) (t : ByteArray) (ll : Nat) (ns : List ByteArray) : Bool := plainB k n t ll ns.length && (!decide (k = 5) || onceB ns)
/-- A value that has the form of its kind, as an item. -/
def itemIn (k n : Int) (t : ByteArray) (l : List Val) (ns : List ByteArray) : D :=
  if k = 0 then .ifc 162 (.agg [])
  else if k = 1 then .ifc 163 (dB (decide (n = 1)))
  else if k = 2 then .ifc 164 (dI n)
  else if k = 3 then .ifc 165 (dS t)
  else if k = 4 then .ifc 166 (valsD l)
  else if k = 5 then .ifc 168 (.agg [namesD ns, valsD l])
  else if k = 6 then .ifc 123 (dS t)
  else .ifc 124 (dS t)
def itemD (k n : Int) (t : ByteArray) (l : List Val) (ns : List ByteArray) : D := if formB k n t l.length ns = true then itemIn k n t l ns else .v .nilIface

theorem len0 (l : List Val) (ns : List ByteArray) : ((l.length : Int) + ns.length = 0) ↔ l = [] ∧ ns = [] := by
  rw [← List.length_eq_zero_iff, ← List.length_eq_zero_iff]
  omega

set_option maxHeartbeats 8000000 in
theorem p_itemOf (k n : Int) (t : ByteArray) (l : List Val) (ns : List ByteArray) (ht : t.size ≤ 4611686018427387904) (hl : l.length ≤ 4611686018427387904) (hn : NamesOk ns) : PCall Try.prog gl 83 [(Val.mk k n t l ns).d] (itemD k n t l ns) := by
  refine PCall.by_ (md := []) Try.func83 rfl (by kernel_rfl) (n := 171) Try.ntmps83 (by simp) (by decide) rfl ?_
  simp [Val.cells]
  repeat' first
    | (refine BrT.dec (fun h => ?_) (fun h => ?_) <;> simp [h, Val.cells])
    | (refine CallT.p (p_isName _ ht) rfl rfl ?_; simp [Val.cells])
    | (refine CallT.p (p_namesOnce _ hn) rfl rfl ?_; simp [Val.cells])
    | (refine CallT.p (p_namesOnce [] ⟨by simp, by simp⟩) rfl rfl ?_; simp [Val.cells])
    | (refine BrT.mk (fun h => ?_) (fun h => ?_) <;> simp [h, Val.cells])
  all_goals try (clear ht hl hn; simp [itemD, itemIn, formB, plainB, len0, *]; done)
  all_goals try (clear ht hl hn; simp [itemD, itemIn, formB, plainB, len0, *]; intros; omega)
end Go.Proofs.Ytghbkljdpikpdaa
