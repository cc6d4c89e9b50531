/-
  NARROWER THAN 'FOR EVERY INPUT', by the rows' own cells (each row's printed sentence says how): FnExactGrew: loops · FnExactSchemaWords: loops · FnExactSelDeep: loops · FnExactSelCount: loops · FnExactSchemaUsed: loops · FnExactGiven: loops.
  DERIVED. THE GIVEN ROWS OF THIS SEAT. 12 by the template 'for every input the law returns true; each argument reads behind the call as it read before'; 0 by the template 'total and deterministic' (their statements: YtbmoiajdknejnaaGreatTotals.lean).
  GIVEN WITH THE SEED: the statements are not yours to turn. If you find one false, say at which input.
  Laid BY PROGRAM, IN A SANDBOX (cutbox-rows.mjs): the forced cells as the released guide's own fill.sh prints them over the translation eef405bd37847910… (all of the seat's roots in one cut). By AI agents, Wed Nov 11 2026. No macro, syntax, notation, axiom, sorry.
-/
import Derived.Test.YtbmoiajdknejnaaGreatChecked
import GoSem.Claim
import GoSem.ClaimJoined
import GoSem.ClaimMapViews
import Derived.JoinedTies
import Derived.KernelRfl
namespace Go.Proofs.YtbmoiajdknejnaaGreat
/- THE CELL 'sum', in the pinned program and in every row, IS THE sha256 OF THE DUMP (.gsa) THAT YtbmoiajdknejnaaGreatProg.lean LOADS. Nothing in Lean hashes anything: it is a label: what it is worth is what the hold of that sum in a sandbox is worth. -/
noncomputable def Tryz.pinned : Pinned := { name := "ytbmoiajdknejnaagreat", sum := "eef405bd37847910b4a25bbade7bb25f0a582b9883a98230c667bf65fd239c13", checked := Tryz.checked }
namespace Rows
def none {H : Type} : Left H := { results := [], args := [] }

/-- 'laws.FnSchemaCheck': WHATEVER THE INPUT: true; the input reads as it did. -/
def fnSchemaCheckSpec : ChangeSpec := { name := "fnSchemaCheck", fn := fun _ => fun
  | [d] => { results := [.lit (.bool true)], args := [d] }
  | _ => none }
def fnSchemaCheckRow : OpenClaim := { program := "ytbmoiajdknejnaagreat", sum := "eef405bd37847910b4a25bbade7bb25f0a582b9883a98230c667bf65fd239c13", func := "loop.example/pergola/laws.FnSchemaCheck", spec := "fnSchemaCheck", unfollowed := true, recurses := true, plainKeys := false, apart := false }
def FnSchemaCheckSaid : Prop := fnSchemaCheckRow.holds Tryz.pinned (OpenSpec.ofChange fnSchemaCheckSpec)

/-- ITS FALSE NEIGHBOUR: 'it returns false'. Refute it at one input. -/
def fnSchemaCheckWrong : ChangeSpec := { name := "fnSchemaCheck", fn := fun _ => fun
  | [d] => { results := [.lit (.bool false)], args := [d] }
  | _ => none }
def FnSchemaCheckWrongFalsely : Prop := fnSchemaCheckRow.holds Tryz.pinned (OpenSpec.ofChange fnSchemaCheckWrong)

/-- 'laws.FnSchemaNames': WHATEVER THE INPUT: true; the input reads as it did. -/
def fnSchemaNamesSpec : ChangeSpec := { name := "fnSchemaNames", fn := fun _ => fun
  | [d] => { results := [.lit (.bool true)], args := [d] }
  | _ => none }
def fnSchemaNamesRow : OpenClaim := { program := "ytbmoiajdknejnaagreat", sum := "eef405bd37847910b4a25bbade7bb25f0a582b9883a98230c667bf65fd239c13", func := "loop.example/pergola/laws.FnSchemaNames", spec := "fnSchemaNames", unfollowed := true, recurses := true, plainKeys := false, apart := false }
def FnSchemaNamesSaid : Prop := fnSchemaNamesRow.holds Tryz.pinned (OpenSpec.ofChange fnSchemaNamesSpec)

/-- ITS FALSE NEIGHBOUR: 'it returns false'. Refute it at one input. -/
def fnSchemaNamesWrong : ChangeSpec := { name := "fnSchemaNames", fn := fun _ => fun
  | [d] => { results := [.lit (.bool false)], args := [d] }
  | _ => none }
def FnSchemaNamesWrongFalsely : Prop := fnSchemaNamesRow.holds Tryz.pinned (OpenSpec.ofChange fnSchemaNamesWrong)

/-- 'laws.FnTypesMeet': WHATEVER THE INPUT: true; the input reads as it did. -/
def fnTypesMeetSpec : ChangeSpec := { name := "fnTypesMeet", fn := fun _ => fun
  | [d] => { results := [.lit (.bool true)], args := [d] }
  | _ => none }
def fnTypesMeetRow : OpenClaim := { program := "ytbmoiajdknejnaagreat", sum := "eef405bd37847910b4a25bbade7bb25f0a582b9883a98230c667bf65fd239c13", func := "loop.example/pergola/laws.FnTypesMeet", spec := "fnTypesMeet", unfollowed := true, recurses := true, plainKeys := false, apart := false }
def FnTypesMeetSaid : Prop := fnTypesMeetRow.holds Tryz.pinned (OpenSpec.ofChange fnTypesMeetSpec)

/-- ITS FALSE NEIGHBOUR: 'it returns false'. Refute it at one input. -/
def fnTypesMeetWrong : ChangeSpec := { name := "fnTypesMeet", fn := fun _ => fun
  | [d] => { results := [.lit (.bool false)], args := [d] }
  | _ => none }
def FnTypesMeetWrongFalsely : Prop := fnTypesMeetRow.holds Tryz.pinned (OpenSpec.ofChange fnTypesMeetWrong)

/-- 'laws.FnExactGrew': WHATEVER THE INPUT: true; the input reads as it did. -/
def fnExactGrewSpec : ChangeSpec := { name := "fnExactGrew", fn := fun _ => fun
  | [d1, d2] => { results := [.lit (.bool true)], args := [d1, d2] }
  | _ => none }
def fnExactGrewRow : OpenClaim := { program := "ytbmoiajdknejnaagreat", sum := "eef405bd37847910b4a25bbade7bb25f0a582b9883a98230c667bf65fd239c13", func := "loop.example/pergola/laws.FnExactGrew", spec := "fnExactGrew", unfollowed := true, recurses := true, loops := true, plainKeys := false, apart := false }
def FnExactGrewSaid : Prop := fnExactGrewRow.holds Tryz.pinned (OpenSpec.ofChange fnExactGrewSpec)

/-- ITS FALSE NEIGHBOUR: 'it returns false'. Refute it at one input. -/
def fnExactGrewWrong : ChangeSpec := { name := "fnExactGrew", fn := fun _ => fun
  | [d1, d2] => { results := [.lit (.bool false)], args := [d1, d2] }
  | _ => none }
def FnExactGrewWrongFalsely : Prop := fnExactGrewRow.holds Tryz.pinned (OpenSpec.ofChange fnExactGrewWrong)

/-- 'laws.FnValueFits': WHATEVER THE INPUT: true; the input reads as it did. -/
def fnValueFitsSpec : ChangeSpec := { name := "fnValueFits", fn := fun _ => fun
  | [d] => { results := [.lit (.bool true)], args := [d] }
  | _ => none }
def fnValueFitsRow : OpenClaim := { program := "ytbmoiajdknejnaagreat", sum := "eef405bd37847910b4a25bbade7bb25f0a582b9883a98230c667bf65fd239c13", func := "loop.example/pergola/laws.FnValueFits", spec := "fnValueFits", unfollowed := true, recurses := true, plainKeys := false, apart := false }
def FnValueFitsSaid : Prop := fnValueFitsRow.holds Tryz.pinned (OpenSpec.ofChange fnValueFitsSpec)

/-- ITS FALSE NEIGHBOUR: 'it returns false'. Refute it at one input. -/
def fnValueFitsWrong : ChangeSpec := { name := "fnValueFits", fn := fun _ => fun
  | [d] => { results := [.lit (.bool false)], args := [d] }
  | _ => none }
def FnValueFitsWrongFalsely : Prop := fnValueFitsRow.holds Tryz.pinned (OpenSpec.ofChange fnValueFitsWrong)

/-- 'laws.FnValueList': WHATEVER THE INPUT: true; the input reads as it did. -/
def fnValueListSpec : ChangeSpec := { name := "fnValueList", fn := fun _ => fun
  | [d] => { results := [.lit (.bool true)], args := [d] }
  | _ => none }
def fnValueListRow : OpenClaim := { program := "ytbmoiajdknejnaagreat", sum := "eef405bd37847910b4a25bbade7bb25f0a582b9883a98230c667bf65fd239c13", func := "loop.example/pergola/laws.FnValueList", spec := "fnValueList", unfollowed := true, recurses := true, plainKeys := false, apart := false }
def FnValueListSaid : Prop := fnValueListRow.holds Tryz.pinned (OpenSpec.ofChange fnValueListSpec)

/-- ITS FALSE NEIGHBOUR: 'it returns false'. Refute it at one input. -/
def fnValueListWrong : ChangeSpec := { name := "fnValueList", fn := fun _ => fun
  | [d] => { results := [.lit (.bool false)], args := [d] }
  | _ => none }
def FnValueListWrongFalsely : Prop := fnValueListRow.holds Tryz.pinned (OpenSpec.ofChange fnValueListWrong)

/-- 'laws.FnExactSchemaWords': WHATEVER THE INPUT: true; the input reads as it did. -/
def fnExactSchemaWordsSpec : ChangeSpec := { name := "fnExactSchemaWords", fn := fun _ => fun
  | [d1, d2, d3] => { results := [.lit (.bool true)], args := [d1, d2, d3] }
  | _ => none }
def fnExactSchemaWordsRow : OpenClaim := { program := "ytbmoiajdknejnaagreat", sum := "eef405bd37847910b4a25bbade7bb25f0a582b9883a98230c667bf65fd239c13", func := "loop.example/pergola/laws.FnExactSchemaWords", spec := "fnExactSchemaWords", unfollowed := true, recurses := true, loops := true, plainKeys := false, apart := false }
def FnExactSchemaWordsSaid : Prop := fnExactSchemaWordsRow.holds Tryz.pinned (OpenSpec.ofChange fnExactSchemaWordsSpec)

/-- ITS FALSE NEIGHBOUR: 'it returns false'. Refute it at one input. -/
def fnExactSchemaWordsWrong : ChangeSpec := { name := "fnExactSchemaWords", fn := fun _ => fun
  | [d1, d2, d3] => { results := [.lit (.bool false)], args := [d1, d2, d3] }
  | _ => none }
def FnExactSchemaWordsWrongFalsely : Prop := fnExactSchemaWordsRow.holds Tryz.pinned (OpenSpec.ofChange fnExactSchemaWordsWrong)

/-- 'laws.FnExactSelDeep': WHATEVER THE INPUT: true; the input reads as it did. -/
def fnExactSelDeepSpec : ChangeSpec := { name := "fnExactSelDeep", fn := fun _ => fun
  | [d1, d2] => { results := [.lit (.bool true)], args := [d1, d2] }
  | _ => none }
def fnExactSelDeepRow : OpenClaim := { program := "ytbmoiajdknejnaagreat", sum := "eef405bd37847910b4a25bbade7bb25f0a582b9883a98230c667bf65fd239c13", func := "loop.example/pergola/laws.FnExactSelDeep", spec := "fnExactSelDeep", unfollowed := true, recurses := true, loops := true, plainKeys := false, apart := false }
def FnExactSelDeepSaid : Prop := fnExactSelDeepRow.holds Tryz.pinned (OpenSpec.ofChange fnExactSelDeepSpec)

/-- ITS FALSE NEIGHBOUR: 'it returns false'. Refute it at one input. -/
def fnExactSelDeepWrong : ChangeSpec := { name := "fnExactSelDeep", fn := fun _ => fun
  | [d1, d2] => { results := [.lit (.bool false)], args := [d1, d2] }
  | _ => none }
def FnExactSelDeepWrongFalsely : Prop := fnExactSelDeepRow.holds Tryz.pinned (OpenSpec.ofChange fnExactSelDeepWrong)

/-- 'laws.FnExactSelCount': WHATEVER THE INPUT: true; the input reads as it did. -/
def fnExactSelCountSpec : ChangeSpec := { name := "fnExactSelCount", fn := fun _ => fun
  | [d1, d2] => { results := [.lit (.bool true)], args := [d1, d2] }
  | _ => none }
def fnExactSelCountRow : OpenClaim := { program := "ytbmoiajdknejnaagreat", sum := "eef405bd37847910b4a25bbade7bb25f0a582b9883a98230c667bf65fd239c13", func := "loop.example/pergola/laws.FnExactSelCount", spec := "fnExactSelCount", unfollowed := true, recurses := true, loops := true, plainKeys := false, apart := false }
def FnExactSelCountSaid : Prop := fnExactSelCountRow.holds Tryz.pinned (OpenSpec.ofChange fnExactSelCountSpec)

/-- ITS FALSE NEIGHBOUR: 'it returns false'. Refute it at one input. -/
def fnExactSelCountWrong : ChangeSpec := { name := "fnExactSelCount", fn := fun _ => fun
  | [d1, d2] => { results := [.lit (.bool false)], args := [d1, d2] }
  | _ => none }
def FnExactSelCountWrongFalsely : Prop := fnExactSelCountRow.holds Tryz.pinned (OpenSpec.ofChange fnExactSelCountWrong)

/-- 'laws.FnExactSchemaUsed': WHATEVER THE INPUT: true; the input reads as it did. -/
def fnExactSchemaUsedSpec : ChangeSpec := { name := "fnExactSchemaUsed", fn := fun _ => fun
  | [d] => { results := [.lit (.bool true)], args := [d] }
  | _ => none }
def fnExactSchemaUsedRow : OpenClaim := { program := "ytbmoiajdknejnaagreat", sum := "eef405bd37847910b4a25bbade7bb25f0a582b9883a98230c667bf65fd239c13", func := "loop.example/pergola/laws.FnExactSchemaUsed", spec := "fnExactSchemaUsed", unfollowed := true, recurses := true, loops := true, plainKeys := false, apart := false }
def FnExactSchemaUsedSaid : Prop := fnExactSchemaUsedRow.holds Tryz.pinned (OpenSpec.ofChange fnExactSchemaUsedSpec)

/-- ITS FALSE NEIGHBOUR: 'it returns false'. Refute it at one input. -/
def fnExactSchemaUsedWrong : ChangeSpec := { name := "fnExactSchemaUsed", fn := fun _ => fun
  | [d] => { results := [.lit (.bool false)], args := [d] }
  | _ => none }
def FnExactSchemaUsedWrongFalsely : Prop := fnExactSchemaUsedRow.holds Tryz.pinned (OpenSpec.ofChange fnExactSchemaUsedWrong)

/-- 'laws.FnSchemaUsed': WHATEVER THE INPUT: true; the input reads as it did. -/
def fnSchemaUsedSpec : ChangeSpec := { name := "fnSchemaUsed", fn := fun _ => fun
  | [d] => { results := [.lit (.bool true)], args := [d] }
  | _ => none }
def fnSchemaUsedRow : OpenClaim := { program := "ytbmoiajdknejnaagreat", sum := "eef405bd37847910b4a25bbade7bb25f0a582b9883a98230c667bf65fd239c13", func := "loop.example/pergola/laws.FnSchemaUsed", spec := "fnSchemaUsed", unfollowed := true, recurses := true, plainKeys := false, apart := false }
def FnSchemaUsedSaid : Prop := fnSchemaUsedRow.holds Tryz.pinned (OpenSpec.ofChange fnSchemaUsedSpec)

/-- ITS FALSE NEIGHBOUR: 'it returns false'. Refute it at one input. -/
def fnSchemaUsedWrong : ChangeSpec := { name := "fnSchemaUsed", fn := fun _ => fun
  | [d] => { results := [.lit (.bool false)], args := [d] }
  | _ => none }
def FnSchemaUsedWrongFalsely : Prop := fnSchemaUsedRow.holds Tryz.pinned (OpenSpec.ofChange fnSchemaUsedWrong)

/-- 'laws.FnExactGiven': WHATEVER THE INPUT: true; the input reads as it did. -/
def fnExactGivenSpec : ChangeSpec := { name := "fnExactGiven", fn := fun _ => fun
  | [d1, d2, d3] => { results := [.lit (.bool true)], args := [d1, d2, d3] }
  | _ => none }
def fnExactGivenRow : OpenClaim := { program := "ytbmoiajdknejnaagreat", sum := "eef405bd37847910b4a25bbade7bb25f0a582b9883a98230c667bf65fd239c13", func := "loop.example/pergola/laws.FnExactGiven", spec := "fnExactGiven", unfollowed := true, recurses := true, loops := true, plainKeys := false, apart := false }
def FnExactGivenSaid : Prop := fnExactGivenRow.holds Tryz.pinned (OpenSpec.ofChange fnExactGivenSpec)

/-- ITS FALSE NEIGHBOUR: 'it returns false'. Refute it at one input. -/
def fnExactGivenWrong : ChangeSpec := { name := "fnExactGiven", fn := fun _ => fun
  | [d1, d2, d3] => { results := [.lit (.bool false)], args := [d1, d2, d3] }
  | _ => none }
def FnExactGivenWrongFalsely : Prop := fnExactGivenRow.holds Tryz.pinned (OpenSpec.ofChange fnExactGivenWrong)

/- THE SECOND FORM. 'bulk': how many values and letters a reading holds, each counted each time it is reached (what is shared counts as often as it is met; a slice's spare places count too). A statement '..UptoSaid' is the law's where the arguments, and the package variables that the reading takes, are together of bulk at most 1048576: NARROWER than '..Said'. Prove '..Said' where nothing that the law and all that it calls make is longer than what came in: it says more and counts as full. Else prove '..UptoSaid'. A law counts once. -/
mutual
def uptoBulk {H : Type} : DataW H → Nat
  | .lit (.string bytes) => bytes.length + 1
  | .lit _ => 1
  | .nil => 1
  | .ptr d => uptoBulk d + 1
  | .slice elems spare => uptoBulkAll elems + uptoBulkAll spare + 1
  | .agg parts => uptoBulkAll parts + 1
  | .iface _ d => uptoBulk d + 1
  | .map entries => uptoBulkEntries entries + 1
  | .held _ => 1
def uptoBulkAll {H : Type} : List (DataW H) → Nat
  | [] => 0
  | d :: r => uptoBulk d + uptoBulkAll r
def uptoBulkEntries {H : Type} : List (Lit × DataW H) → Nat
  | [] => 0
  | x :: r => uptoBulkEntry x + uptoBulkEntries r
def uptoBulkEntry {H : Type} : Lit × DataW H → Nat
  | (.string bytes, d) => bytes.length + uptoBulk d + 1
  | (_, d) => uptoBulk d + 1
 end
def uptoSmall : (H : Type) → List (DataW H) → Bool := fun _ ds => decide (uptoBulkAll ds ≤ 1048576)
def OpenSpec.upto (s : _root_.Go.ChangeSpec) : _root_.Go.OpenSpec := { _root_.Go.OpenSpec.ofChange s with cond := some uptoSmall }

/-- 'laws.FnSchemaCheck', WHERE WHAT IT READS IS OF BULK AT MOST 1048576: true; the input reads as it did. -/
def fnSchemaCheckUptoRow : OpenClaim := { program := "ytbmoiajdknejnaagreat", sum := "eef405bd37847910b4a25bbade7bb25f0a582b9883a98230c667bf65fd239c13", func := "loop.example/pergola/laws.FnSchemaCheck", spec := "fnSchemaCheck", unfollowed := true, recurses := true, plainKeys := false, apart := false, narrowed := true }
def FnSchemaCheckUptoSaid : Prop := fnSchemaCheckUptoRow.holds Tryz.pinned (OpenSpec.upto fnSchemaCheckSpec)

/-- 'laws.FnSchemaNames', WHERE WHAT IT READS IS OF BULK AT MOST 1048576: true; the input reads as it did. -/
def fnSchemaNamesUptoRow : OpenClaim := { program := "ytbmoiajdknejnaagreat", sum := "eef405bd37847910b4a25bbade7bb25f0a582b9883a98230c667bf65fd239c13", func := "loop.example/pergola/laws.FnSchemaNames", spec := "fnSchemaNames", unfollowed := true, recurses := true, plainKeys := false, apart := false, narrowed := true }
def FnSchemaNamesUptoSaid : Prop := fnSchemaNamesUptoRow.holds Tryz.pinned (OpenSpec.upto fnSchemaNamesSpec)

/-- 'laws.FnTypesMeet', WHERE WHAT IT READS IS OF BULK AT MOST 1048576: true; the input reads as it did. -/
def fnTypesMeetUptoRow : OpenClaim := { program := "ytbmoiajdknejnaagreat", sum := "eef405bd37847910b4a25bbade7bb25f0a582b9883a98230c667bf65fd239c13", func := "loop.example/pergola/laws.FnTypesMeet", spec := "fnTypesMeet", unfollowed := true, recurses := true, plainKeys := false, apart := false, narrowed := true }
def FnTypesMeetUptoSaid : Prop := fnTypesMeetUptoRow.holds Tryz.pinned (OpenSpec.upto fnTypesMeetSpec)

/-- 'laws.FnExactGrew', WHERE WHAT IT READS IS OF BULK AT MOST 1048576: true; the input reads as it did. -/
def fnExactGrewUptoRow : OpenClaim := { program := "ytbmoiajdknejnaagreat", sum := "eef405bd37847910b4a25bbade7bb25f0a582b9883a98230c667bf65fd239c13", func := "loop.example/pergola/laws.FnExactGrew", spec := "fnExactGrew", unfollowed := true, recurses := true, loops := true, plainKeys := false, apart := false, narrowed := true }
def FnExactGrewUptoSaid : Prop := fnExactGrewUptoRow.holds Tryz.pinned (OpenSpec.upto fnExactGrewSpec)

/-- 'laws.FnValueFits', WHERE WHAT IT READS IS OF BULK AT MOST 1048576: true; the input reads as it did. -/
def fnValueFitsUptoRow : OpenClaim := { program := "ytbmoiajdknejnaagreat", sum := "eef405bd37847910b4a25bbade7bb25f0a582b9883a98230c667bf65fd239c13", func := "loop.example/pergola/laws.FnValueFits", spec := "fnValueFits", unfollowed := true, recurses := true, plainKeys := false, apart := false, narrowed := true }
def FnValueFitsUptoSaid : Prop := fnValueFitsUptoRow.holds Tryz.pinned (OpenSpec.upto fnValueFitsSpec)

/-- 'laws.FnValueList', WHERE WHAT IT READS IS OF BULK AT MOST 1048576: true; the input reads as it did. -/
def fnValueListUptoRow : OpenClaim := { program := "ytbmoiajdknejnaagreat", sum := "eef405bd37847910b4a25bbade7bb25f0a582b9883a98230c667bf65fd239c13", func := "loop.example/pergola/laws.FnValueList", spec := "fnValueList", unfollowed := true, recurses := true, plainKeys := false, apart := false, narrowed := true }
def FnValueListUptoSaid : Prop := fnValueListUptoRow.holds Tryz.pinned (OpenSpec.upto fnValueListSpec)

/-- 'laws.FnExactSchemaWords', WHERE WHAT IT READS IS OF BULK AT MOST 1048576: true; the input reads as it did. -/
def fnExactSchemaWordsUptoRow : OpenClaim := { program := "ytbmoiajdknejnaagreat", sum := "eef405bd37847910b4a25bbade7bb25f0a582b9883a98230c667bf65fd239c13", func := "loop.example/pergola/laws.FnExactSchemaWords", spec := "fnExactSchemaWords", unfollowed := true, recurses := true, loops := true, plainKeys := false, apart := false, narrowed := true }
def FnExactSchemaWordsUptoSaid : Prop := fnExactSchemaWordsUptoRow.holds Tryz.pinned (OpenSpec.upto fnExactSchemaWordsSpec)

/-- 'laws.FnExactSelDeep', WHERE WHAT IT READS IS OF BULK AT MOST 1048576: true; the input reads as it did. -/
def fnExactSelDeepUptoRow : OpenClaim := { program := "ytbmoiajdknejnaagreat", sum := "eef405bd37847910b4a25bbade7bb25f0a582b9883a98230c667bf65fd239c13", func := "loop.example/pergola/laws.FnExactSelDeep", spec := "fnExactSelDeep", unfollowed := true, recurses := true, loops := true, plainKeys := false, apart := false, narrowed := true }
def FnExactSelDeepUptoSaid : Prop := fnExactSelDeepUptoRow.holds Tryz.pinned (OpenSpec.upto fnExactSelDeepSpec)

/-- 'laws.FnExactSelCount', WHERE WHAT IT READS IS OF BULK AT MOST 1048576: true; the input reads as it did. -/
def fnExactSelCountUptoRow : OpenClaim := { program := "ytbmoiajdknejnaagreat", sum := "eef405bd37847910b4a25bbade7bb25f0a582b9883a98230c667bf65fd239c13", func := "loop.example/pergola/laws.FnExactSelCount", spec := "fnExactSelCount", unfollowed := true, recurses := true, loops := true, plainKeys := false, apart := false, narrowed := true }
def FnExactSelCountUptoSaid : Prop := fnExactSelCountUptoRow.holds Tryz.pinned (OpenSpec.upto fnExactSelCountSpec)

/-- 'laws.FnExactSchemaUsed', WHERE WHAT IT READS IS OF BULK AT MOST 1048576: true; the input reads as it did. -/
def fnExactSchemaUsedUptoRow : OpenClaim := { program := "ytbmoiajdknejnaagreat", sum := "eef405bd37847910b4a25bbade7bb25f0a582b9883a98230c667bf65fd239c13", func := "loop.example/pergola/laws.FnExactSchemaUsed", spec := "fnExactSchemaUsed", unfollowed := true, recurses := true, loops := true, plainKeys := false, apart := false, narrowed := true }
def FnExactSchemaUsedUptoSaid : Prop := fnExactSchemaUsedUptoRow.holds Tryz.pinned (OpenSpec.upto fnExactSchemaUsedSpec)

/-- 'laws.FnSchemaUsed', WHERE WHAT IT READS IS OF BULK AT MOST 1048576: true; the input reads as it did. -/
def fnSchemaUsedUptoRow : OpenClaim := { program := "ytbmoiajdknejnaagreat", sum := "eef405bd37847910b4a25bbade7bb25f0a582b9883a98230c667bf65fd239c13", func := "loop.example/pergola/laws.FnSchemaUsed", spec := "fnSchemaUsed", unfollowed := true, recurses := true, plainKeys := false, apart := false, narrowed := true }
def FnSchemaUsedUptoSaid : Prop := fnSchemaUsedUptoRow.holds Tryz.pinned (OpenSpec.upto fnSchemaUsedSpec)

/-- 'laws.FnExactGiven', WHERE WHAT IT READS IS OF BULK AT MOST 1048576: true; the input reads as it did. -/
def fnExactGivenUptoRow : OpenClaim := { program := "ytbmoiajdknejnaagreat", sum := "eef405bd37847910b4a25bbade7bb25f0a582b9883a98230c667bf65fd239c13", func := "loop.example/pergola/laws.FnExactGiven", spec := "fnExactGiven", unfollowed := true, recurses := true, loops := true, plainKeys := false, apart := false, narrowed := true }
def FnExactGivenUptoSaid : Prop := fnExactGivenUptoRow.holds Tryz.pinned (OpenSpec.upto fnExactGivenSpec)

end Rows
end Go.Proofs.YtbmoiajdknejnaaGreat
