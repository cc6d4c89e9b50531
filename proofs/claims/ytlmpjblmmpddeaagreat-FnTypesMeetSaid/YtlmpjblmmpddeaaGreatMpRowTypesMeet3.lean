/- What the row of FnTypesMeet asks of the program, fact by fact. -/
import Derived.Test.YtlmpjblmmpddeaaGreatMg9
namespace Go.Proofs.YtlmpjblmmpddeaaGreat.fnTypesMeet
open Go.ChangeShapes Go.WideShapes Go.RowKit
theorem j0:(Rows.fnTypesMeetRow.wf (OpenSpec.ofChange Rows.fnTypesMeetSpec))=true:=by kernel_rfl
theorem j3:(Tryz.f4.params.all (Tryz.prog.readableRec ·))=true:=by kernel_rfl
theorem j4:(namedTie Tryz.prog Rows.fnTypesMeetRow.named Rows.fnTypesMeetSpec.vars)=true:=by kernel_rfl
theorem j5:(Rows.fnTypesMeetRow.stops == [])=true:=by kernel_rfl
theorem j7:(Rows.fnTypesMeetRow.knobs == [])=true:=by kernel_rfl
theorem j9:(Rows.fnTypesMeetRow.inPlace == Tryz.prog.inPlace 4)=true:=by kernel_rfl
theorem j10:(Rows.fnTypesMeetRow.unfollowed == Tryz.prog.unfollowed 4)=true:=by kernel_rfl
theorem j11:(Rows.fnTypesMeetRow.recurses == Tryz.prog.recurses 4)=true:=by kernel_rfl
theorem j12:(Rows.fnTypesMeetRow.named == Tryz.prog.varsNamed 4)=true:=by kernel_rfl
theorem j13:(Rows.fnTypesMeetRow.maps == (Tryz.f4.params.toList++Rows.fnTypesMeetSpec.plain.varTypes Tryz.prog).any (Tryz.prog.mapsRec ·))=true:=by kernel_rfl
theorem j14:(Rows.fnTypesMeetRow.ifaces == (Tryz.f4.params.toList++Rows.fnTypesMeetSpec.plain.varTypes Tryz.prog).any (Tryz.prog.ifacesRec ·))=true:=by kernel_rfl
theorem j15:(Rows.fnTypesMeetRow.mapsOut == Tryz.prog.mapsAmong Tryz.f4.resultTypes.toList)=true:=by kernel_rfl
theorem j16:(Rows.fnTypesMeetRow.loops == (Tryz.f4.params.toList++Rows.fnTypesMeetSpec.plain.varTypes Tryz.prog).any (Tryz.prog.loopsFrom ·))=true:=by kernel_rfl
theorem j17:(Rows.fnTypesMeetRow.wideKeys == (Tryz.f4.params.toList++Rows.fnTypesMeetSpec.plain.varTypes Tryz.prog++Tryz.f4.resultTypes.toList).any (Tryz.prog.wideKeysFrom ·))=true:=by kernel_rfl
theorem j18:(Rows.fnTypesMeetSpec.vars.all (Tryz.prog.varReadable ·))=true:=by kernel_rfl
theorem j19:(Tryz.f4.resultTypes.all (fun t=>Tryz.prog.readableRec t&&decide (t<Tryz.prog.types.size)))=true:=by kernel_rfl
theorem j20:(Rows.fnTypesMeetRow.ifacesOut == Tryz.f4.resultTypes.toList.any (Tryz.prog.ifacesRec ·))=true:=by kernel_rfl
theorem j21:(Rows.fnTypesMeetRow.loopsOut == Tryz.f4.resultTypes.toList.any (Tryz.prog.loopsFrom ·))=true:=by kernel_rfl
theorem j22:(Rows.fnTypesMeetRow.plainKeys == Tryz.prog.plainKeys)=true:=by kernel_rfl
theorem j23:(Rows.fnTypesMeetRow.shortTexts.isNone)=true:=by kernel_rfl
theorem j26:(Rows.fnTypesMeetRow.lifted == Tryz.prog.liftsFinal)=true:=Jo.lifted
theorem j27:(Tryz.prog.make == some Rows.fnTypesMeetRow.make)=true:=by kernel_rfl
theorem j28:Rows.fnTypesMeetRow.domain=[]:=rfl
theorem j29:Rows.fnTypesMeetRow.kinds=[]:=rfl
theorem j30:(Rows.fnTypesMeetRow.pinned == Rows.fnTypesMeetRow.pinnedBy)=true:=by kernel_rfl
theorem j31:(Rows.fnTypesMeetRow.veiled == (Tryz.f4.params.toList++Rows.fnTypesMeetSpec.plain.varTypes Tryz.prog++Tryz.f4.resultTypes.toList).any (Tryz.prog.veiledRec ·))=true:=by kernel_rfl
theorem j32:(Rows.fnTypesMeetRow.veiledFits Tryz.prog Tryz.f4.params.toList (Tryz.f4.params.toList++Rows.fnTypesMeetSpec.plain.varTypes Tryz.prog++Tryz.f4.resultTypes.toList))=true:=by kernel_rfl
theorem closed:joinedFacts Tryz.prog 4 Tryz.f4 Rows.fnTypesMeetSpec Rows.fnTypesMeetRow=true:=Jo.joined j0 Jo.laidOut Jo.mapsRowed j3 j4 j5 Jo.stops j7 Jo.stopKnobs j9 j10 j11 j12 j13 j14 j15 j16 j17 j18 j19 j20 j21 j22 j23 Jo.stopsHeard Jo.mayEnter j26 j27 j28 j29 j30 j31 j32
end Go.Proofs.YtlmpjblmmpddeaaGreat.fnTypesMeet
