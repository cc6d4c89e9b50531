/- What the row of FnValueFits asks of the program, fact by fact. -/
import Derived.Test.YtlmpjblmmpddeaaGreatMg9
namespace Go.Proofs.YtlmpjblmmpddeaaGreat.fnValueFits
open Go.ChangeShapes Go.WideShapes Go.RowKit
theorem j0:(Rows.fnValueFitsRow.wf (OpenSpec.ofChange Rows.fnValueFitsSpec))=true:=by kernel_rfl
theorem j3:(Tryz.f6.params.all (Tryz.prog.readableRec ·))=true:=by kernel_rfl
theorem j4:(namedTie Tryz.prog Rows.fnValueFitsRow.named Rows.fnValueFitsSpec.vars)=true:=by kernel_rfl
theorem j5:(Rows.fnValueFitsRow.stops == [])=true:=by kernel_rfl
theorem j7:(Rows.fnValueFitsRow.knobs == [])=true:=by kernel_rfl
theorem j9:(Rows.fnValueFitsRow.inPlace == Tryz.prog.inPlace 6)=true:=by kernel_rfl
theorem j10:(Rows.fnValueFitsRow.unfollowed == Tryz.prog.unfollowed 6)=true:=by kernel_rfl
theorem j11:(Rows.fnValueFitsRow.recurses == Tryz.prog.recurses 6)=true:=by kernel_rfl
theorem j12:(Rows.fnValueFitsRow.named == Tryz.prog.varsNamed 6)=true:=by kernel_rfl
theorem j13:(Rows.fnValueFitsRow.maps == (Tryz.f6.params.toList++Rows.fnValueFitsSpec.plain.varTypes Tryz.prog).any (Tryz.prog.mapsRec ·))=true:=by kernel_rfl
theorem j14:(Rows.fnValueFitsRow.ifaces == (Tryz.f6.params.toList++Rows.fnValueFitsSpec.plain.varTypes Tryz.prog).any (Tryz.prog.ifacesRec ·))=true:=by kernel_rfl
theorem j15:(Rows.fnValueFitsRow.mapsOut == Tryz.prog.mapsAmong Tryz.f6.resultTypes.toList)=true:=by kernel_rfl
theorem j16:(Rows.fnValueFitsRow.loops == (Tryz.f6.params.toList++Rows.fnValueFitsSpec.plain.varTypes Tryz.prog).any (Tryz.prog.loopsFrom ·))=true:=by kernel_rfl
theorem j17:(Rows.fnValueFitsRow.wideKeys == (Tryz.f6.params.toList++Rows.fnValueFitsSpec.plain.varTypes Tryz.prog++Tryz.f6.resultTypes.toList).any (Tryz.prog.wideKeysFrom ·))=true:=by kernel_rfl
theorem j18:(Rows.fnValueFitsSpec.vars.all (Tryz.prog.varReadable ·))=true:=by kernel_rfl
theorem j19:(Tryz.f6.resultTypes.all (fun t=>Tryz.prog.readableRec t&&decide (t<Tryz.prog.types.size)))=true:=by kernel_rfl
theorem j20:(Rows.fnValueFitsRow.ifacesOut == Tryz.f6.resultTypes.toList.any (Tryz.prog.ifacesRec ·))=true:=by kernel_rfl
theorem j21:(Rows.fnValueFitsRow.loopsOut == Tryz.f6.resultTypes.toList.any (Tryz.prog.loopsFrom ·))=true:=by kernel_rfl
theorem j22:(Rows.fnValueFitsRow.plainKeys == Tryz.prog.plainKeys)=true:=by kernel_rfl
theorem j23:(Rows.fnValueFitsRow.shortTexts.isNone)=true:=by kernel_rfl
theorem j26:(Rows.fnValueFitsRow.lifted == Tryz.prog.liftsFinal)=true:=Jo.lifted
theorem j27:(Tryz.prog.make == some Rows.fnValueFitsRow.make)=true:=by kernel_rfl
theorem j28:Rows.fnValueFitsRow.domain=[]:=rfl
theorem j29:Rows.fnValueFitsRow.kinds=[]:=rfl
theorem j30:(Rows.fnValueFitsRow.pinned == Rows.fnValueFitsRow.pinnedBy)=true:=by kernel_rfl
theorem j31:(Rows.fnValueFitsRow.veiled == (Tryz.f6.params.toList++Rows.fnValueFitsSpec.plain.varTypes Tryz.prog++Tryz.f6.resultTypes.toList).any (Tryz.prog.veiledRec ·))=true:=by kernel_rfl
theorem j32:(Rows.fnValueFitsRow.veiledFits Tryz.prog Tryz.f6.params.toList (Tryz.f6.params.toList++Rows.fnValueFitsSpec.plain.varTypes Tryz.prog++Tryz.f6.resultTypes.toList))=true:=by kernel_rfl
theorem closed:joinedFacts Tryz.prog 6 Tryz.f6 Rows.fnValueFitsSpec Rows.fnValueFitsRow=true:=Jo.joined j0 Jo.laidOut Jo.mapsRowed j3 j4 j5 Jo.stops j7 Jo.stopKnobs j9 j10 j11 j12 j13 j14 j15 j16 j17 j18 j19 j20 j21 j22 j23 Jo.stopsHeard Jo.mayEnter j26 j27 j28 j29 j30 j31 j32
end Go.Proofs.YtlmpjblmmpddeaaGreat.fnValueFits
