/- What the row of FnSchemaNames asks of the program, fact by fact. -/
import Derived.Test.YtlmpjblmmpddeaaGreatMg9
namespace Go.Proofs.YtlmpjblmmpddeaaGreat.fnSchemaNames
open Go.ChangeShapes Go.WideShapes Go.RowKit
theorem j0:(Rows.fnSchemaNamesRow.wf (OpenSpec.ofChange Rows.fnSchemaNamesSpec))=true:=by kernel_rfl
theorem j3:(Tryz.f3.params.all (Tryz.prog.readableRec ·))=true:=by kernel_rfl
theorem j4:(namedTie Tryz.prog Rows.fnSchemaNamesRow.named Rows.fnSchemaNamesSpec.vars)=true:=by kernel_rfl
theorem j5:(Rows.fnSchemaNamesRow.stops == [])=true:=by kernel_rfl
theorem j7:(Rows.fnSchemaNamesRow.knobs == [])=true:=by kernel_rfl
theorem j9:(Rows.fnSchemaNamesRow.inPlace == Tryz.prog.inPlace 3)=true:=by kernel_rfl
theorem j10:(Rows.fnSchemaNamesRow.unfollowed == Tryz.prog.unfollowed 3)=true:=by kernel_rfl
theorem j11:(Rows.fnSchemaNamesRow.recurses == Tryz.prog.recurses 3)=true:=by kernel_rfl
theorem j12:(Rows.fnSchemaNamesRow.named == Tryz.prog.varsNamed 3)=true:=by kernel_rfl
theorem j13:(Rows.fnSchemaNamesRow.maps == (Tryz.f3.params.toList++Rows.fnSchemaNamesSpec.plain.varTypes Tryz.prog).any (Tryz.prog.mapsRec ·))=true:=by kernel_rfl
theorem j14:(Rows.fnSchemaNamesRow.ifaces == (Tryz.f3.params.toList++Rows.fnSchemaNamesSpec.plain.varTypes Tryz.prog).any (Tryz.prog.ifacesRec ·))=true:=by kernel_rfl
theorem j15:(Rows.fnSchemaNamesRow.mapsOut == Tryz.prog.mapsAmong Tryz.f3.resultTypes.toList)=true:=by kernel_rfl
theorem j16:(Rows.fnSchemaNamesRow.loops == (Tryz.f3.params.toList++Rows.fnSchemaNamesSpec.plain.varTypes Tryz.prog).any (Tryz.prog.loopsFrom ·))=true:=by kernel_rfl
theorem j17:(Rows.fnSchemaNamesRow.wideKeys == (Tryz.f3.params.toList++Rows.fnSchemaNamesSpec.plain.varTypes Tryz.prog++Tryz.f3.resultTypes.toList).any (Tryz.prog.wideKeysFrom ·))=true:=by kernel_rfl
theorem j18:(Rows.fnSchemaNamesSpec.vars.all (Tryz.prog.varReadable ·))=true:=by kernel_rfl
theorem j19:(Tryz.f3.resultTypes.all (fun t=>Tryz.prog.readableRec t&&decide (t<Tryz.prog.types.size)))=true:=by kernel_rfl
theorem j20:(Rows.fnSchemaNamesRow.ifacesOut == Tryz.f3.resultTypes.toList.any (Tryz.prog.ifacesRec ·))=true:=by kernel_rfl
theorem j21:(Rows.fnSchemaNamesRow.loopsOut == Tryz.f3.resultTypes.toList.any (Tryz.prog.loopsFrom ·))=true:=by kernel_rfl
theorem j22:(Rows.fnSchemaNamesRow.plainKeys == Tryz.prog.plainKeys)=true:=by kernel_rfl
theorem j23:(Rows.fnSchemaNamesRow.shortTexts.isNone)=true:=by kernel_rfl
theorem j26:(Rows.fnSchemaNamesRow.lifted == Tryz.prog.liftsFinal)=true:=Jo.lifted
theorem j27:(Tryz.prog.make == some Rows.fnSchemaNamesRow.make)=true:=by kernel_rfl
theorem j28:Rows.fnSchemaNamesRow.domain=[]:=rfl
theorem j29:Rows.fnSchemaNamesRow.kinds=[]:=rfl
theorem j30:(Rows.fnSchemaNamesRow.pinned == Rows.fnSchemaNamesRow.pinnedBy)=true:=by kernel_rfl
theorem j31:(Rows.fnSchemaNamesRow.veiled == (Tryz.f3.params.toList++Rows.fnSchemaNamesSpec.plain.varTypes Tryz.prog++Tryz.f3.resultTypes.toList).any (Tryz.prog.veiledRec ·))=true:=by kernel_rfl
theorem j32:(Rows.fnSchemaNamesRow.veiledFits Tryz.prog Tryz.f3.params.toList (Tryz.f3.params.toList++Rows.fnSchemaNamesSpec.plain.varTypes Tryz.prog++Tryz.f3.resultTypes.toList))=true:=by kernel_rfl
theorem closed:joinedFacts Tryz.prog 3 Tryz.f3 Rows.fnSchemaNamesSpec Rows.fnSchemaNamesRow=true:=Jo.joined j0 Jo.laidOut Jo.mapsRowed j3 j4 j5 Jo.stops j7 Jo.stopKnobs j9 j10 j11 j12 j13 j14 j15 j16 j17 j18 j19 j20 j21 j22 j23 Jo.stopsHeard Jo.mayEnter j26 j27 j28 j29 j30 j31 j32
end Go.Proofs.YtlmpjblmmpddeaaGreat.fnSchemaNames
