/-
  NARROWER THAN 'FOR EVERY INPUT', by the rows' own cells (each row's printed sentence says how): FnExactGrew: loops.
  DERIVED. THE GIVEN ROWS OF THIS SEAT. 10 by the template 'for every input the law returns true; each argument reads behind the call as it read before'; 0 by the template 'total and deterministic' (their statements: YtlmpjblmmpddeaaGreatTotals.lean).
  GIVEN WITH THE SEED: the statements are not yours to turn. If you find one false, say at which input.
  Laid BY PROGRAM, IN A SANDBOX (cutbox-rows.mjs): the forced cells as the released guide's own fill.sh prints them over the translation 912b1709ba7edd1b… (all of the seat's roots in one cut). By AI agents, Wed Nov 11 2026. No macro, syntax, notation, axiom, sorry.
-/
import Derived.Test.YtlmpjblmmpddeaaGreatChecked
import GoSem.Claim
import GoSem.ClaimJoined
import GoSem.ClaimMapViews
import Derived.JoinedTies
import Derived.KernelRfl
namespace Go.Proofs.YtlmpjblmmpddeaaGreat
/- THE CELL 'sum', in the pinned program and in every row, IS THE sha256 OF THE DUMP (.gsa) THAT YtlmpjblmmpddeaaGreatProg.lean LOADS. Nothing in Lean hashes anything: it is a label: what it is worth is what the hold of that sum in a sandbox is worth. -/
noncomputable def Tryz.pinned : Pinned := { name := "ytlmpjblmmpddeaagreat", sum := "912b1709ba7edd1b00ddb115170e119891ab758cb774b9e29178576a061a4583", checked := Tryz.checked }
namespace Rows
def none {H : Type} : Left H := { results := [], args := [] }

/-- 'laws.FnSchemaNames': WHATEVER THE INPUT: true; the input reads as it did. -/
def fnSchemaNamesSpec : ChangeSpec := { name := "fnSchemaNames", fn := fun _ => fun
  | [d] => { results := [.lit (.bool true)], args := [d] }
  | _ => none }
def fnSchemaNamesRow : OpenClaim := { program := "ytlmpjblmmpddeaagreat", sum := "912b1709ba7edd1b00ddb115170e119891ab758cb774b9e29178576a061a4583", func := "loop.example/pergola/laws.FnSchemaNames", spec := "fnSchemaNames", unfollowed := true, recurses := true, plainKeys := false, apart := false }
def FnSchemaNamesSaid : Prop := fnSchemaNamesRow.holds Tryz.pinned (OpenSpec.ofChange fnSchemaNamesSpec)

/-- ITS FALSE NEIGHBOUR: 'it returns false'. Refute it at one input. -/
def fnSchemaNamesWrong : ChangeSpec := { name := "fnSchemaNames", fn := fun _ => fun
  | [d] => { results := [.lit (.bool false)], args := [d] }
  | _ => none }
def FnSchemaNamesWrongFalsely : Prop := fnSchemaNamesRow.holds Tryz.pinned (OpenSpec.ofChange fnSchemaNamesWrong)

/-- 'laws.FnTypesMeet': WHATEVER THE INPUT: true; the input reads as it did. -/
def fnTypesMeetSpec : ChangeSpec := { name := "fnTypesMeet", fn := fun _ => fun
  | [d] => { results := [.lit (.bool true)], args := [d] }
  | _ => none }
def fnTypesMeetRow : OpenClaim := { program := "ytlmpjblmmpddeaagreat", sum := "912b1709ba7edd1b00ddb115170e119891ab758cb774b9e29178576a061a4583", func := "loop.example/pergola/laws.FnTypesMeet", spec := "fnTypesMeet", unfollowed := true, recurses := true, plainKeys := false, apart := false }
def FnTypesMeetSaid : Prop := fnTypesMeetRow.holds Tryz.pinned (OpenSpec.ofChange fnTypesMeetSpec)

/-- ITS FALSE NEIGHBOUR: 'it returns false'. Refute it at one input. -/
def fnTypesMeetWrong : ChangeSpec := { name := "fnTypesMeet", fn := fun _ => fun
  | [d] => { results := [.lit (.bool false)], args := [d] }
  | _ => none }
def FnTypesMeetWrongFalsely : Prop := fnTypesMeetRow.holds Tryz.pinned (OpenSpec.ofChange fnTypesMeetWrong)

/-- 'laws.FnExactGrew': WHATEVER THE INPUT: true; the input reads as it did. -/
def fnExactGrewSpec : ChangeSpec := { name := "fnExactGrew", fn := fun _ => fun
  | [d1, d2] => { results := [.lit (.bool true)], args := [d1, d2] }
  | _ => none }
def fnExactGrewRow : OpenClaim := { program := "ytlmpjblmmpddeaagreat", sum := "912b1709ba7edd1b00ddb115170e119891ab758cb774b9e29178576a061a4583", func := "loop.example/pergola/laws.FnExactGrew", spec := "fnExactGrew", unfollowed := true, recurses := true, loops := true, plainKeys := false, apart := false }
def FnExactGrewSaid : Prop := fnExactGrewRow.holds Tryz.pinned (OpenSpec.ofChange fnExactGrewSpec)

/-- ITS FALSE NEIGHBOUR: 'it returns false'. Refute it at one input. -/
def fnExactGrewWrong : ChangeSpec := { name := "fnExactGrew", fn := fun _ => fun
  | [d1, d2] => { results := [.lit (.bool false)], args := [d1, d2] }
  | _ => none }
def FnExactGrewWrongFalsely : Prop := fnExactGrewRow.holds Tryz.pinned (OpenSpec.ofChange fnExactGrewWrong)

/-- 'laws.FnValueFits': WHATEVER THE INPUT: true; the input reads as it did. -/
def fnValueFitsSpec : ChangeSpec := { name := "fnValueFits", fn := fun _ => fun
  | [d] => { results := [.lit (.bool true)], args := [d] }
  | _ => none }
def fnValueFitsRow : OpenClaim := { program := "ytlmpjblmmpddeaagreat", sum := "912b1709ba7edd1b00ddb115170e119891ab758cb774b9e29178576a061a4583", func := "loop.example/pergola/laws.FnValueFits", spec := "fnValueFits", unfollowed := true, recurses := true, plainKeys := false, apart := false }
def FnValueFitsSaid : Prop := fnValueFitsRow.holds Tryz.pinned (OpenSpec.ofChange fnValueFitsSpec)

/-- ITS FALSE NEIGHBOUR: 'it returns false'. Refute it at one input. -/
def fnValueFitsWrong : ChangeSpec := { name := "fnValueFits", fn := fun _ => fun
  | [d] => { results := [.lit (.bool false)], args := [d] }
  | _ => none }
def FnValueFitsWrongFalsely : Prop := fnValueFitsRow.holds Tryz.pinned (OpenSpec.ofChange fnValueFitsWrong)

/-- 'laws.FnValueList': WHATEVER THE INPUT: true; the input reads as it did. -/
def fnValueListSpec : ChangeSpec := { name := "fnValueList", fn := fun _ => fun
  | [d] => { results := [.lit (.bool true)], args := [d] }
  | _ => none }
def fnValueListRow : OpenClaim := { program := "ytlmpjblmmpddeaagreat", sum := "912b1709ba7edd1b00ddb115170e119891ab758cb774b9e29178576a061a4583", func := "loop.example/pergola/laws.FnValueList", spec := "fnValueList", unfollowed := true, recurses := true, plainKeys := false, apart := false }
def FnValueListSaid : Prop := fnValueListRow.holds Tryz.pinned (OpenSpec.ofChange fnValueListSpec)

/-- ITS FALSE NEIGHBOUR: 'it returns false'. Refute it at one input. -/
def fnValueListWrong : ChangeSpec := { name := "fnValueList", fn := fun _ => fun
  | [d] => { results := [.lit (.bool false)], args := [d] }
  | _ => none }
def FnValueListWrongFalsely : Prop := fnValueListRow.holds Tryz.pinned (OpenSpec.ofChange fnValueListWrong)

/-- 'laws.FnSchemaWith': WHATEVER THE INPUT: true; the input reads as it did. -/
def fnSchemaWithSpec : ChangeSpec := { name := "fnSchemaWith", fn := fun _ => fun
  | [d] => { results := [.lit (.bool true)], args := [d] }
  | _ => none }
def fnSchemaWithRow : OpenClaim := { program := "ytlmpjblmmpddeaagreat", sum := "912b1709ba7edd1b00ddb115170e119891ab758cb774b9e29178576a061a4583", func := "loop.example/pergola/laws.FnSchemaWith", spec := "fnSchemaWith", unfollowed := true, recurses := true, plainKeys := false, apart := false }
def FnSchemaWithSaid : Prop := fnSchemaWithRow.holds Tryz.pinned (OpenSpec.ofChange fnSchemaWithSpec)

/-- ITS FALSE NEIGHBOUR: 'it returns false'. Refute it at one input. -/
def fnSchemaWithWrong : ChangeSpec := { name := "fnSchemaWith", fn := fun _ => fun
  | [d] => { results := [.lit (.bool false)], args := [d] }
  | _ => none }
def FnSchemaWithWrongFalsely : Prop := fnSchemaWithRow.holds Tryz.pinned (OpenSpec.ofChange fnSchemaWithWrong)

/-- 'laws.FnGrows': WHATEVER THE INPUT: true; the input reads as it did. -/
def fnGrowsSpec : ChangeSpec := { name := "fnGrows", fn := fun _ => fun
  | [d] => { results := [.lit (.bool true)], args := [d] }
  | _ => none }
def fnGrowsRow : OpenClaim := { program := "ytlmpjblmmpddeaagreat", sum := "912b1709ba7edd1b00ddb115170e119891ab758cb774b9e29178576a061a4583", func := "loop.example/pergola/laws.FnGrows", spec := "fnGrows", unfollowed := true, recurses := true, plainKeys := false, apart := false }
def FnGrowsSaid : Prop := fnGrowsRow.holds Tryz.pinned (OpenSpec.ofChange fnGrowsSpec)

/-- ITS FALSE NEIGHBOUR: 'it returns false'. Refute it at one input. -/
def fnGrowsWrong : ChangeSpec := { name := "fnGrows", fn := fun _ => fun
  | [d] => { results := [.lit (.bool false)], args := [d] }
  | _ => none }
def FnGrowsWrongFalsely : Prop := fnGrowsRow.holds Tryz.pinned (OpenSpec.ofChange fnGrowsWrong)

/-- 'laws.FnSchemaWords': WHATEVER THE INPUT: true; the input reads as it did. -/
def fnSchemaWordsSpec : ChangeSpec := { name := "fnSchemaWords", fn := fun _ => fun
  | [d] => { results := [.lit (.bool true)], args := [d] }
  | _ => none }
def fnSchemaWordsRow : OpenClaim := { program := "ytlmpjblmmpddeaagreat", sum := "912b1709ba7edd1b00ddb115170e119891ab758cb774b9e29178576a061a4583", func := "loop.example/pergola/laws.FnSchemaWords", spec := "fnSchemaWords", unfollowed := true, recurses := true, plainKeys := false, apart := false }
def FnSchemaWordsSaid : Prop := fnSchemaWordsRow.holds Tryz.pinned (OpenSpec.ofChange fnSchemaWordsSpec)

/-- ITS FALSE NEIGHBOUR: 'it returns false'. Refute it at one input. -/
def fnSchemaWordsWrong : ChangeSpec := { name := "fnSchemaWords", fn := fun _ => fun
  | [d] => { results := [.lit (.bool false)], args := [d] }
  | _ => none }
def FnSchemaWordsWrongFalsely : Prop := fnSchemaWordsRow.holds Tryz.pinned (OpenSpec.ofChange fnSchemaWordsWrong)

/-- 'laws.FnSchemaUsed': WHATEVER THE INPUT: true; the input reads as it did. -/
def fnSchemaUsedSpec : ChangeSpec := { name := "fnSchemaUsed", fn := fun _ => fun
  | [d] => { results := [.lit (.bool true)], args := [d] }
  | _ => none }
def fnSchemaUsedRow : OpenClaim := { program := "ytlmpjblmmpddeaagreat", sum := "912b1709ba7edd1b00ddb115170e119891ab758cb774b9e29178576a061a4583", func := "loop.example/pergola/laws.FnSchemaUsed", spec := "fnSchemaUsed", unfollowed := true, recurses := true, plainKeys := false, apart := false }
def FnSchemaUsedSaid : Prop := fnSchemaUsedRow.holds Tryz.pinned (OpenSpec.ofChange fnSchemaUsedSpec)

/-- ITS FALSE NEIGHBOUR: 'it returns false'. Refute it at one input. -/
def fnSchemaUsedWrong : ChangeSpec := { name := "fnSchemaUsed", fn := fun _ => fun
  | [d] => { results := [.lit (.bool false)], args := [d] }
  | _ => none }
def FnSchemaUsedWrongFalsely : Prop := fnSchemaUsedRow.holds Tryz.pinned (OpenSpec.ofChange fnSchemaUsedWrong)

/-- 'laws.FnGrewBoth': WHATEVER THE INPUT: true; the input reads as it did. -/
def fnGrewBothSpec : ChangeSpec := { name := "fnGrewBoth", fn := fun _ => fun
  | [d] => { results := [.lit (.bool true)], args := [d] }
  | _ => none }
def fnGrewBothRow : OpenClaim := { program := "ytlmpjblmmpddeaagreat", sum := "912b1709ba7edd1b00ddb115170e119891ab758cb774b9e29178576a061a4583", func := "loop.example/pergola/laws.FnGrewBoth", spec := "fnGrewBoth", unfollowed := true, recurses := true, plainKeys := false, apart := false }
def FnGrewBothSaid : Prop := fnGrewBothRow.holds Tryz.pinned (OpenSpec.ofChange fnGrewBothSpec)

/-- ITS FALSE NEIGHBOUR: 'it returns false'. Refute it at one input. -/
def fnGrewBothWrong : ChangeSpec := { name := "fnGrewBoth", fn := fun _ => fun
  | [d] => { results := [.lit (.bool false)], args := [d] }
  | _ => none }
def FnGrewBothWrongFalsely : Prop := fnGrewBothRow.holds Tryz.pinned (OpenSpec.ofChange fnGrewBothWrong)

/- THE SECOND FORM. 'bulk': how many values and letters a reading holds, each counted each time it is reached (what is shared counts as often as it is met; a slice's spare places count too). A statement '..UptoSaid' is the law's where the arguments, and the package variables that the reading takes, are together of bulk at most 1048576: NARROWER than '..Said'. Prove '..Said' where nothing that the law and all that it calls make is longer than what came in: it says more and counts as full. Else prove '..UptoSaid'. A law counts once. -/
mutual
def uptoBulk {H : Type} : DataW H → Nat
  | .lit (.string bytes) => bytes.length + 1
  | .lit _ => 1
  | .nil => 1
  | .ptr d => uptoBulk d + 1
  | .slice elems spare => uptoBulkAll elems + uptoBulkAll spare + 1
  | .agg parts => uptoBulkAll parts + 1
  | .iface _ d => uptoBulk d + 1
  | .map entries => uptoBulkEntries entries + 1
  | .held _ => 1
def uptoBulkAll {H : Type} : List (DataW H) → Nat
  | [] => 0
  | d :: r => uptoBulk d + uptoBulkAll r
def uptoBulkEntries {H : Type} : List (Lit × DataW H) → Nat
  | [] => 0
  | x :: r => uptoBulkEntry x + uptoBulkEntries r
def uptoBulkEntry {H : Type} : Lit × DataW H → Nat
  | (.string bytes, d) => bytes.length + uptoBulk d + 1
  | (_, d) => uptoBulk d + 1
 end
def uptoSmall : (H : Type) → List (DataW H) → Bool := fun _ ds => decide (uptoBulkAll ds ≤ 1048576)
def OpenSpec.upto (s : _root_.Go.ChangeSpec) : _root_.Go.OpenSpec := { _root_.Go.OpenSpec.ofChange s with cond := some uptoSmall }

/-- 'laws.FnSchemaNames', WHERE WHAT IT READS IS OF BULK AT MOST 1048576: true; the input reads as it did. -/
def fnSchemaNamesUptoRow : OpenClaim := { program := "ytlmpjblmmpddeaagreat", sum := "912b1709ba7edd1b00ddb115170e119891ab758cb774b9e29178576a061a4583", func := "loop.example/pergola/laws.FnSchemaNames", spec := "fnSchemaNames", unfollowed := true, recurses := true, plainKeys := false, apart := false, narrowed := true }
def FnSchemaNamesUptoSaid : Prop := fnSchemaNamesUptoRow.holds Tryz.pinned (OpenSpec.upto fnSchemaNamesSpec)

/-- 'laws.FnTypesMeet', WHERE WHAT IT READS IS OF BULK AT MOST 1048576: true; the input reads as it did. -/
def fnTypesMeetUptoRow : OpenClaim := { program := "ytlmpjblmmpddeaagreat", sum := "912b1709ba7edd1b00ddb115170e119891ab758cb774b9e29178576a061a4583", func := "loop.example/pergola/laws.FnTypesMeet", spec := "fnTypesMeet", unfollowed := true, recurses := true, plainKeys := false, apart := false, narrowed := true }
def FnTypesMeetUptoSaid : Prop := fnTypesMeetUptoRow.holds Tryz.pinned (OpenSpec.upto fnTypesMeetSpec)

/-- 'laws.FnExactGrew', WHERE WHAT IT READS IS OF BULK AT MOST 1048576: true; the input reads as it did. -/
def fnExactGrewUptoRow : OpenClaim := { program := "ytlmpjblmmpddeaagreat", sum := "912b1709ba7edd1b00ddb115170e119891ab758cb774b9e29178576a061a4583", func := "loop.example/pergola/laws.FnExactGrew", spec := "fnExactGrew", unfollowed := true, recurses := true, loops := true, plainKeys := false, apart := false, narrowed := true }
def FnExactGrewUptoSaid : Prop := fnExactGrewUptoRow.holds Tryz.pinned (OpenSpec.upto fnExactGrewSpec)

/-- 'laws.FnValueFits', WHERE WHAT IT READS IS OF BULK AT MOST 1048576: true; the input reads as it did. -/
def fnValueFitsUptoRow : OpenClaim := { program := "ytlmpjblmmpddeaagreat", sum := "912b1709ba7edd1b00ddb115170e119891ab758cb774b9e29178576a061a4583", func := "loop.example/pergola/laws.FnValueFits", spec := "fnValueFits", unfollowed := true, recurses := true, plainKeys := false, apart := false, narrowed := true }
def FnValueFitsUptoSaid : Prop := fnValueFitsUptoRow.holds Tryz.pinned (OpenSpec.upto fnValueFitsSpec)

/-- 'laws.FnValueList', WHERE WHAT IT READS IS OF BULK AT MOST 1048576: true; the input reads as it did. -/
def fnValueListUptoRow : OpenClaim := { program := "ytlmpjblmmpddeaagreat", sum := "912b1709ba7edd1b00ddb115170e119891ab758cb774b9e29178576a061a4583", func := "loop.example/pergola/laws.FnValueList", spec := "fnValueList", unfollowed := true, recurses := true, plainKeys := false, apart := false, narrowed := true }
def FnValueListUptoSaid : Prop := fnValueListUptoRow.holds Tryz.pinned (OpenSpec.upto fnValueListSpec)

/-- 'laws.FnSchemaWith', WHERE WHAT IT READS IS OF BULK AT MOST 1048576: true; the input reads as it did. -/
def fnSchemaWithUptoRow : OpenClaim := { program := "ytlmpjblmmpddeaagreat", sum := "912b1709ba7edd1b00ddb115170e119891ab758cb774b9e29178576a061a4583", func := "loop.example/pergola/laws.FnSchemaWith", spec := "fnSchemaWith", unfollowed := true, recurses := true, plainKeys := false, apart := false, narrowed := true }
def FnSchemaWithUptoSaid : Prop := fnSchemaWithUptoRow.holds Tryz.pinned (OpenSpec.upto fnSchemaWithSpec)

/-- 'laws.FnGrows', WHERE WHAT IT READS IS OF BULK AT MOST 1048576: true; the input reads as it did. -/
def fnGrowsUptoRow : OpenClaim := { program := "ytlmpjblmmpddeaagreat", sum := "912b1709ba7edd1b00ddb115170e119891ab758cb774b9e29178576a061a4583", func := "loop.example/pergola/laws.FnGrows", spec := "fnGrows", unfollowed := true, recurses := true, plainKeys := false, apart := false, narrowed := true }
def FnGrowsUptoSaid : Prop := fnGrowsUptoRow.holds Tryz.pinned (OpenSpec.upto fnGrowsSpec)

/-- 'laws.FnSchemaWords', WHERE WHAT IT READS IS OF BULK AT MOST 1048576: true; the input reads as it did. -/
def fnSchemaWordsUptoRow : OpenClaim := { program := "ytlmpjblmmpddeaagreat", sum := "912b1709ba7edd1b00ddb115170e119891ab758cb774b9e29178576a061a4583", func := "loop.example/pergola/laws.FnSchemaWords", spec := "fnSchemaWords", unfollowed := true, recurses := true, plainKeys := false, apart := false, narrowed := true }
def FnSchemaWordsUptoSaid : Prop := fnSchemaWordsUptoRow.holds Tryz.pinned (OpenSpec.upto fnSchemaWordsSpec)

/-- 'laws.FnSchemaUsed', WHERE WHAT IT READS IS OF BULK AT MOST 1048576: true; the input reads as it did. -/
def fnSchemaUsedUptoRow : OpenClaim := { program := "ytlmpjblmmpddeaagreat", sum := "912b1709ba7edd1b00ddb115170e119891ab758cb774b9e29178576a061a4583", func := "loop.example/pergola/laws.FnSchemaUsed", spec := "fnSchemaUsed", unfollowed := true, recurses := true, plainKeys := false, apart := false, narrowed := true }
def FnSchemaUsedUptoSaid : Prop := fnSchemaUsedUptoRow.holds Tryz.pinned (OpenSpec.upto fnSchemaUsedSpec)

/-- 'laws.FnGrewBoth', WHERE WHAT IT READS IS OF BULK AT MOST 1048576: true; the input reads as it did. -/
def fnGrewBothUptoRow : OpenClaim := { program := "ytlmpjblmmpddeaagreat", sum := "912b1709ba7edd1b00ddb115170e119891ab758cb774b9e29178576a061a4583", func := "loop.example/pergola/laws.FnGrewBoth", spec := "fnGrewBoth", unfollowed := true, recurses := true, plainKeys := false, apart := false, narrowed := true }
def FnGrewBothUptoSaid : Prop := fnGrewBothUptoRow.holds Tryz.pinned (OpenSpec.upto fnGrewBothSpec)

end Rows
end Go.Proofs.YtlmpjblmmpddeaaGreat
