/- What the row of FnSchemaUsed asks of the program, fact by fact. -/
import Derived.Test.YtlmpjblmmpddeaaGreatMg9
namespace Go.Proofs.YtlmpjblmmpddeaaGreat.fnSchemaUsed
open Go.ChangeShapes Go.WideShapes Go.RowKit
theorem j0:(Rows.fnSchemaUsedRow.wf (OpenSpec.ofChange Rows.fnSchemaUsedSpec))=true:=by kernel_rfl
theorem j3:(Tryz.f11.params.all (Tryz.prog.readableRec ·))=true:=by kernel_rfl
theorem j4:(namedTie Tryz.prog Rows.fnSchemaUsedRow.named Rows.fnSchemaUsedSpec.vars)=true:=by kernel_rfl
theorem j5:(Rows.fnSchemaUsedRow.stops == [])=true:=by kernel_rfl
theorem j7:(Rows.fnSchemaUsedRow.knobs == [])=true:=by kernel_rfl
theorem j9:(Rows.fnSchemaUsedRow.inPlace == Tryz.prog.inPlace 11)=true:=by kernel_rfl
theorem j10:(Rows.fnSchemaUsedRow.unfollowed == Tryz.prog.unfollowed 11)=true:=by kernel_rfl
theorem j11:(Rows.fnSchemaUsedRow.recurses == Tryz.prog.recurses 11)=true:=by kernel_rfl
theorem j12:(Rows.fnSchemaUsedRow.named == Tryz.prog.varsNamed 11)=true:=by kernel_rfl
theorem j13:(Rows.fnSchemaUsedRow.maps == (Tryz.f11.params.toList++Rows.fnSchemaUsedSpec.plain.varTypes Tryz.prog).any (Tryz.prog.mapsRec ·))=true:=by kernel_rfl
theorem j14:(Rows.fnSchemaUsedRow.ifaces == (Tryz.f11.params.toList++Rows.fnSchemaUsedSpec.plain.varTypes Tryz.prog).any (Tryz.prog.ifacesRec ·))=true:=by kernel_rfl
theorem j15:(Rows.fnSchemaUsedRow.mapsOut == Tryz.prog.mapsAmong Tryz.f11.resultTypes.toList)=true:=by kernel_rfl
theorem j16:(Rows.fnSchemaUsedRow.loops == (Tryz.f11.params.toList++Rows.fnSchemaUsedSpec.plain.varTypes Tryz.prog).any (Tryz.prog.loopsFrom ·))=true:=by kernel_rfl
theorem j17:(Rows.fnSchemaUsedRow.wideKeys == (Tryz.f11.params.toList++Rows.fnSchemaUsedSpec.plain.varTypes Tryz.prog++Tryz.f11.resultTypes.toList).any (Tryz.prog.wideKeysFrom ·))=true:=by kernel_rfl
theorem j18:(Rows.fnSchemaUsedSpec.vars.all (Tryz.prog.varReadable ·))=true:=by kernel_rfl
theorem j19:(Tryz.f11.resultTypes.all (fun t=>Tryz.prog.readableRec t&&decide (t<Tryz.prog.types.size)))=true:=by kernel_rfl
theorem j20:(Rows.fnSchemaUsedRow.ifacesOut == Tryz.f11.resultTypes.toList.any (Tryz.prog.ifacesRec ·))=true:=by kernel_rfl
theorem j21:(Rows.fnSchemaUsedRow.loopsOut == Tryz.f11.resultTypes.toList.any (Tryz.prog.loopsFrom ·))=true:=by kernel_rfl
theorem j22:(Rows.fnSchemaUsedRow.plainKeys == Tryz.prog.plainKeys)=true:=by kernel_rfl
theorem j23:(Rows.fnSchemaUsedRow.shortTexts.isNone)=true:=by kernel_rfl
theorem j26:(Rows.fnSchemaUsedRow.lifted == Tryz.prog.liftsFinal)=true:=Jo.lifted
theorem j27:(Tryz.prog.make == some Rows.fnSchemaUsedRow.make)=true:=by kernel_rfl
theorem j28:Rows.fnSchemaUsedRow.domain=[]:=rfl
theorem j29:Rows.fnSchemaUsedRow.kinds=[]:=rfl
theorem j30:(Rows.fnSchemaUsedRow.pinned == Rows.fnSchemaUsedRow.pinnedBy)=true:=by kernel_rfl
theorem j31:(Rows.fnSchemaUsedRow.veiled == (Tryz.f11.params.toList++Rows.fnSchemaUsedSpec.plain.varTypes Tryz.prog++Tryz.f11.resultTypes.toList).any (Tryz.prog.veiledRec ·))=true:=by kernel_rfl
theorem j32:(Rows.fnSchemaUsedRow.veiledFits Tryz.prog Tryz.f11.params.toList (Tryz.f11.params.toList++Rows.fnSchemaUsedSpec.plain.varTypes Tryz.prog++Tryz.f11.resultTypes.toList))=true:=by kernel_rfl
theorem closed:joinedFacts Tryz.prog 11 Tryz.f11 Rows.fnSchemaUsedSpec Rows.fnSchemaUsedRow=true:=Jo.joined j0 Jo.laidOut Jo.mapsRowed j3 j4 j5 Jo.stops j7 Jo.stopKnobs j9 j10 j11 j12 j13 j14 j15 j16 j17 j18 j19 j20 j21 j22 j23 Jo.stopsHeard Jo.mayEnter j26 j27 j28 j29 j30 j31 j32
end Go.Proofs.YtlmpjblmmpddeaaGreat.fnSchemaUsed
