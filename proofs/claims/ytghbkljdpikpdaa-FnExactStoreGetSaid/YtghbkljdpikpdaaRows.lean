/-
  NARROWER THAN 'FOR EVERY INPUT', by the rows' own cells (each row's printed sentence says how): FnExactStoreGet: loops · FnExactStoreSet: loops.
  DERIVED. THE GIVEN ROWS OF THIS SEAT. 5 by the template 'for every input the law returns true; each argument reads behind the call as it read before'; 0 by the template 'total and deterministic' (their statements: YtghbkljdpikpdaaTotals.lean).
  GIVEN WITH THE SEED: the statements are not yours to turn. If you find one false, say at which input.
  Laid BY PROGRAM, IN A SANDBOX (cutbox-rows.mjs): the forced cells as the released guide's own fill.sh prints them over the translation 706155a420ce0469… (all of the seat's roots in one cut). By AI agents, Wed Nov 11 2026. No macro, syntax, notation, axiom, sorry.
-/
import Derived.Test.YtghbkljdpikpdaaChecked
import GoSem.Claim
import GoSem.ClaimJoined
import GoSem.ClaimMapViews
import Derived.JoinedTies
import Derived.KernelRfl
namespace Go.Proofs.Ytghbkljdpikpdaa
/- THE CELL 'sum', in the pinned program and in every row, IS THE sha256 OF THE DUMP (.gsa) THAT YtghbkljdpikpdaaProg.lean LOADS. Nothing in Lean hashes anything: it is a label: what it is worth is what the hold of that sum in a sandbox is worth. -/
noncomputable def Try.pinned : Pinned := { name := "ytghbkljdpikpdaa", sum := "706155a420ce0469f2cb3a476007fa9f2de8df17d0b53be6a1dd189dc408db5c", checked := Try.checked }
namespace Rows
def none {H : Type} : Left H := { results := [], args := [] }

/-- 'laws.FnExactStoreGet': WHATEVER THE INPUT: true; the input reads as it did. -/
def fnExactStoreGetSpec : ChangeSpec := { name := "fnExactStoreGet", fn := fun _ => fun
  | [d1, d2, d3] => { results := [.lit (.bool true)], args := [d1, d2, d3] }
  | _ => none }
def fnExactStoreGetRow : OpenClaim := { program := "ytghbkljdpikpdaa", sum := "706155a420ce0469f2cb3a476007fa9f2de8df17d0b53be6a1dd189dc408db5c", func := "loop.example/pergola/laws.FnExactStoreGet", spec := "fnExactStoreGet", unfollowed := true, recurses := true, loops := true, plainKeys := false, apart := false }
def FnExactStoreGetSaid : Prop := fnExactStoreGetRow.holds Try.pinned (OpenSpec.ofChange fnExactStoreGetSpec)

/-- ITS FALSE NEIGHBOUR: 'it returns false'. Refute it at one input. -/
def fnExactStoreGetWrong : ChangeSpec := { name := "fnExactStoreGet", fn := fun _ => fun
  | [d1, d2, d3] => { results := [.lit (.bool false)], args := [d1, d2, d3] }
  | _ => none }
def FnExactStoreGetWrongFalsely : Prop := fnExactStoreGetRow.holds Try.pinned (OpenSpec.ofChange fnExactStoreGetWrong)

/-- 'laws.FnExactStoreSet': WHATEVER THE INPUT: true; the input reads as it did. -/
def fnExactStoreSetSpec : ChangeSpec := { name := "fnExactStoreSet", fn := fun _ => fun
  | [d1, d2, d3, d4] => { results := [.lit (.bool true)], args := [d1, d2, d3, d4] }
  | _ => none }
def fnExactStoreSetRow : OpenClaim := { program := "ytghbkljdpikpdaa", sum := "706155a420ce0469f2cb3a476007fa9f2de8df17d0b53be6a1dd189dc408db5c", func := "loop.example/pergola/laws.FnExactStoreSet", spec := "fnExactStoreSet", unfollowed := true, recurses := true, loops := true, plainKeys := false, apart := false }
def FnExactStoreSetSaid : Prop := fnExactStoreSetRow.holds Try.pinned (OpenSpec.ofChange fnExactStoreSetSpec)

/-- ITS FALSE NEIGHBOUR: 'it returns false'. Refute it at one input. -/
def fnExactStoreSetWrong : ChangeSpec := { name := "fnExactStoreSet", fn := fun _ => fun
  | [d1, d2, d3, d4] => { results := [.lit (.bool false)], args := [d1, d2, d3, d4] }
  | _ => none }
def FnExactStoreSetWrongFalsely : Prop := fnExactStoreSetRow.holds Try.pinned (OpenSpec.ofChange fnExactStoreSetWrong)

/-- 'laws.FnStoreTwo': WHATEVER THE INPUT: true; the input reads as it did. -/
def fnStoreTwoSpec : ChangeSpec := { name := "fnStoreTwo", fn := fun _ => fun
  | [d] => { results := [.lit (.bool true)], args := [d] }
  | _ => none }
def fnStoreTwoRow : OpenClaim := { program := "ytghbkljdpikpdaa", sum := "706155a420ce0469f2cb3a476007fa9f2de8df17d0b53be6a1dd189dc408db5c", func := "loop.example/pergola/laws.FnStoreTwo", spec := "fnStoreTwo", unfollowed := true, recurses := true, plainKeys := false, apart := false }
def FnStoreTwoSaid : Prop := fnStoreTwoRow.holds Try.pinned (OpenSpec.ofChange fnStoreTwoSpec)

/-- ITS FALSE NEIGHBOUR: 'it returns false'. Refute it at one input. -/
def fnStoreTwoWrong : ChangeSpec := { name := "fnStoreTwo", fn := fun _ => fun
  | [d] => { results := [.lit (.bool false)], args := [d] }
  | _ => none }
def FnStoreTwoWrongFalsely : Prop := fnStoreTwoRow.holds Try.pinned (OpenSpec.ofChange fnStoreTwoWrong)

/-- 'laws.FnStoreGet': WHATEVER THE INPUT: true; the input reads as it did. -/
def fnStoreGetSpec : ChangeSpec := { name := "fnStoreGet", fn := fun _ => fun
  | [d] => { results := [.lit (.bool true)], args := [d] }
  | _ => none }
def fnStoreGetRow : OpenClaim := { program := "ytghbkljdpikpdaa", sum := "706155a420ce0469f2cb3a476007fa9f2de8df17d0b53be6a1dd189dc408db5c", func := "loop.example/pergola/laws.FnStoreGet", spec := "fnStoreGet", unfollowed := true, recurses := true, plainKeys := false, apart := false }
def FnStoreGetSaid : Prop := fnStoreGetRow.holds Try.pinned (OpenSpec.ofChange fnStoreGetSpec)

/-- ITS FALSE NEIGHBOUR: 'it returns false'. Refute it at one input. -/
def fnStoreGetWrong : ChangeSpec := { name := "fnStoreGet", fn := fun _ => fun
  | [d] => { results := [.lit (.bool false)], args := [d] }
  | _ => none }
def FnStoreGetWrongFalsely : Prop := fnStoreGetRow.holds Try.pinned (OpenSpec.ofChange fnStoreGetWrong)

/-- 'laws.FnWords': WHATEVER THE INPUT: true; the input reads as it did. -/
def fnWordsSpec : ChangeSpec := { name := "fnWords", fn := fun _ => fun
  | [d] => { results := [.lit (.bool true)], args := [d] }
  | _ => none }
def fnWordsRow : OpenClaim := { program := "ytghbkljdpikpdaa", sum := "706155a420ce0469f2cb3a476007fa9f2de8df17d0b53be6a1dd189dc408db5c", func := "loop.example/pergola/laws.FnWords", spec := "fnWords", inPlace := ["internal/bytealg.IndexByteString"], unfollowed := true, recurses := true, plainKeys := false, apart := false }
def FnWordsSaid : Prop := fnWordsRow.holds Try.pinned (OpenSpec.ofChange fnWordsSpec)

/-- ITS FALSE NEIGHBOUR: 'it returns false'. Refute it at one input. -/
def fnWordsWrong : ChangeSpec := { name := "fnWords", fn := fun _ => fun
  | [d] => { results := [.lit (.bool false)], args := [d] }
  | _ => none }
def FnWordsWrongFalsely : Prop := fnWordsRow.holds Try.pinned (OpenSpec.ofChange fnWordsWrong)

/- THE SECOND FORM. 'bulk': how many values and letters a reading holds, each counted each time it is reached (what is shared counts as often as it is met; a slice's spare places count too). A statement '..UptoSaid' is the law's where the arguments, and the package variables that the reading takes, are together of bulk at most 1048576: NARROWER than '..Said'. Prove '..Said' where nothing that the law and all that it calls make is longer than what came in: it says more and counts as full. Else prove '..UptoSaid'. A law counts once. -/
mutual
def uptoBulk {H : Type} : DataW H → Nat
  | .lit (.string bytes) => bytes.length + 1
  | .lit _ => 1
  | .nil => 1
  | .ptr d => uptoBulk d + 1
  | .slice elems spare => uptoBulkAll elems + uptoBulkAll spare + 1
  | .agg parts => uptoBulkAll parts + 1
  | .iface _ d => uptoBulk d + 1
  | .map entries => uptoBulkEntries entries + 1
  | .held _ => 1
def uptoBulkAll {H : Type} : List (DataW H) → Nat
  | [] => 0
  | d :: r => uptoBulk d + uptoBulkAll r
def uptoBulkEntries {H : Type} : List (Lit × DataW H) → Nat
  | [] => 0
  | x :: r => uptoBulkEntry x + uptoBulkEntries r
def uptoBulkEntry {H : Type} : Lit × DataW H → Nat
  | (.string bytes, d) => bytes.length + uptoBulk d + 1
  | (_, d) => uptoBulk d + 1
 end
def uptoSmall : (H : Type) → List (DataW H) → Bool := fun _ ds => decide (uptoBulkAll ds ≤ 1048576)
def OpenSpec.upto (s : _root_.Go.ChangeSpec) : _root_.Go.OpenSpec := { _root_.Go.OpenSpec.ofChange s with cond := some uptoSmall }

/-- 'laws.FnExactStoreGet', WHERE WHAT IT READS IS OF BULK AT MOST 1048576: true; the input reads as it did. -/
def fnExactStoreGetUptoRow : OpenClaim := { program := "ytghbkljdpikpdaa", sum := "706155a420ce0469f2cb3a476007fa9f2de8df17d0b53be6a1dd189dc408db5c", func := "loop.example/pergola/laws.FnExactStoreGet", spec := "fnExactStoreGet", unfollowed := true, recurses := true, loops := true, plainKeys := false, apart := false, narrowed := true }
def FnExactStoreGetUptoSaid : Prop := fnExactStoreGetUptoRow.holds Try.pinned (OpenSpec.upto fnExactStoreGetSpec)

/-- 'laws.FnExactStoreSet', WHERE WHAT IT READS IS OF BULK AT MOST 1048576: true; the input reads as it did. -/
def fnExactStoreSetUptoRow : OpenClaim := { program := "ytghbkljdpikpdaa", sum := "706155a420ce0469f2cb3a476007fa9f2de8df17d0b53be6a1dd189dc408db5c", func := "loop.example/pergola/laws.FnExactStoreSet", spec := "fnExactStoreSet", unfollowed := true, recurses := true, loops := true, plainKeys := false, apart := false, narrowed := true }
def FnExactStoreSetUptoSaid : Prop := fnExactStoreSetUptoRow.holds Try.pinned (OpenSpec.upto fnExactStoreSetSpec)

/-- 'laws.FnStoreTwo', WHERE WHAT IT READS IS OF BULK AT MOST 1048576: true; the input reads as it did. -/
def fnStoreTwoUptoRow : OpenClaim := { program := "ytghbkljdpikpdaa", sum := "706155a420ce0469f2cb3a476007fa9f2de8df17d0b53be6a1dd189dc408db5c", func := "loop.example/pergola/laws.FnStoreTwo", spec := "fnStoreTwo", unfollowed := true, recurses := true, plainKeys := false, apart := false, narrowed := true }
def FnStoreTwoUptoSaid : Prop := fnStoreTwoUptoRow.holds Try.pinned (OpenSpec.upto fnStoreTwoSpec)

/-- 'laws.FnStoreGet', WHERE WHAT IT READS IS OF BULK AT MOST 1048576: true; the input reads as it did. -/
def fnStoreGetUptoRow : OpenClaim := { program := "ytghbkljdpikpdaa", sum := "706155a420ce0469f2cb3a476007fa9f2de8df17d0b53be6a1dd189dc408db5c", func := "loop.example/pergola/laws.FnStoreGet", spec := "fnStoreGet", unfollowed := true, recurses := true, plainKeys := false, apart := false, narrowed := true }
def FnStoreGetUptoSaid : Prop := fnStoreGetUptoRow.holds Try.pinned (OpenSpec.upto fnStoreGetSpec)

/-- 'laws.FnWords', WHERE WHAT IT READS IS OF BULK AT MOST 1048576: true; the input reads as it did. -/
def fnWordsUptoRow : OpenClaim := { program := "ytghbkljdpikpdaa", sum := "706155a420ce0469f2cb3a476007fa9f2de8df17d0b53be6a1dd189dc408db5c", func := "loop.example/pergola/laws.FnWords", spec := "fnWords", inPlace := ["internal/bytealg.IndexByteString"], unfollowed := true, recurses := true, plainKeys := false, apart := false, narrowed := true }
def FnWordsUptoSaid : Prop := fnWordsUptoRow.holds Try.pinned (OpenSpec.upto fnWordsSpec)

end Rows
end Go.Proofs.Ytghbkljdpikpdaa
