/- Jo and what follows it, one behind another. -/
import Derived.Test.YtbmoiajdknejnaaGreatRows
import Derived.JoinedOf
import Derived.WalkKit
import Derived.ProofKit
import Derived.KernelRfl
namespace Go.Proofs.YtbmoiajdknejnaaGreat.Jo
theorem both {a b:Bool} (ha:a=true) (hb:b=true):(a&&b)=true:=by rw[ha,hb];rfl
theorem joined {P:Program}{f:FuncId}{fn:Func}{s:ChangeSpec}{c:OpenClaim} (h0:(c.wf (OpenSpec.ofChange s))=true) (h1:(laidOutB P)=true) (h2:(Go.mapsRowed P)=true) (h3:(fn.params.all (P.readableRec ·))=true) (h4:(namedTie P c.named s.vars)=true) (h5:(c.stops == [])=true) (h6:(P.stops == [])=true) (h7:(c.knobs == [])=true) (h8:(P.stopKnobs == [])=true) (h9:(c.inPlace == P.inPlace f)=true) (h10:(c.unfollowed == P.unfollowed f)=true) (h11:(c.recurses == P.recurses f)=true) (h12:(c.named == P.varsNamed f)=true) (h13:(c.maps == (fn.params.toList++s.plain.varTypes P).any (P.mapsRec ·))=true) (h14:(c.ifaces == (fn.params.toList++s.plain.varTypes P).any (P.ifacesRec ·))=true) (h15:(c.mapsOut == P.mapsAmong fn.resultTypes.toList)=true) (h16:(c.loops == (fn.params.toList++s.plain.varTypes P).any (P.loopsFrom ·))=true) (h17:(c.wideKeys == (fn.params.toList++s.plain.varTypes P++fn.resultTypes.toList).any (P.wideKeysFrom ·))=true) (h18:(s.vars.all (P.varReadable ·))=true) (h19:(fn.resultTypes.all (fun t=>P.readableRec t&&decide (t<P.types.size)))=true) (h20:(c.ifacesOut == fn.resultTypes.toList.any (P.ifacesRec ·))=true) (h21:(c.loopsOut == fn.resultTypes.toList.any (P.loopsFrom ·))=true) (h22:(c.plainKeys == P.plainKeys)=true) (h23:(c.shortTexts.isNone)=true) (h24:(P.stopsHeard)=true) (h25:(P.mayEnter)=true) (h26:(c.lifted == P.liftsFinal)=true) (h27:(P.make == some c.make)=true) (h28:c.domain=[]) (h28b:c.kinds=[]) (h29:(c.pinned == c.pinnedBy)=true) (h30:(c.veiled == (fn.params.toList++s.plain.varTypes P++fn.resultTypes.toList).any (P.veiledRec ·))=true) (h31:(c.veiledFits P fn.params.toList (fn.params.toList++s.plain.varTypes P++fn.resultTypes.toList))=true):joinedFacts P f fn s c=true:=both (both (both (both (both (both (both (both (both (both (both (both (both (both (both (both (both (both (both (both (both (both (both (both (both (both (both (both (both (both (both (h0) h1) h2) h3) h4) h5) h6) h7) h8) h9) h10) h11) h12) h13) h14) h15) h16) h17) h18) h19) h20) h21) h22) h23) h24) h25) h26) h27) (show (c.kinds == (if c.domain.isEmpty then [] else fn.params.toList.map fun t=>match P.underlying t with | some (.int k)=>some k | _=>none))=true by rw[h28,h28b];rfl)) h29) h30) h31
theorem laidOut:laidOutB Tryz.prog=true:=by kernel_rfl
theorem mapsRowed:mapsRowed Tryz.prog=true:=by kernel_rfl
theorem stops:(Tryz.prog.stops == [])=true:=by kernel_rfl
theorem stopKnobs:(Tryz.prog.stopKnobs == [])=true:=by kernel_rfl
theorem stopsHeard:Tryz.prog.stopsHeard=true:=by kernel_rfl
theorem mayEnter:Tryz.prog.mayEnter=true:=by kernel_rfl
theorem lifted:(false == Tryz.prog.liftsFinal)=true:=by kernel_rfl
end Go.Proofs.YtbmoiajdknejnaaGreat.Jo
namespace Go.Proofs.YtbmoiajdknejnaaGreat.fnSchemaCheck
open Go.ChangeShapes Go.WideShapes Go.RowKit
theorem j0:(Rows.fnSchemaCheckRow.wf (OpenSpec.ofChange Rows.fnSchemaCheckSpec))=true:=by kernel_rfl
theorem j3:(Tryz.f3.params.all (Tryz.prog.readableRec ·))=true:=by kernel_rfl
theorem j4:(namedTie Tryz.prog Rows.fnSchemaCheckRow.named Rows.fnSchemaCheckSpec.vars)=true:=by kernel_rfl
theorem j5:(Rows.fnSchemaCheckRow.stops == [])=true:=by kernel_rfl
theorem j7:(Rows.fnSchemaCheckRow.knobs == [])=true:=by kernel_rfl
theorem j9:(Rows.fnSchemaCheckRow.inPlace == Tryz.prog.inPlace 3)=true:=by kernel_rfl
theorem j10:(Rows.fnSchemaCheckRow.unfollowed == Tryz.prog.unfollowed 3)=true:=by kernel_rfl
theorem j11:(Rows.fnSchemaCheckRow.recurses == Tryz.prog.recurses 3)=true:=by kernel_rfl
theorem j12:(Rows.fnSchemaCheckRow.named == Tryz.prog.varsNamed 3)=true:=by kernel_rfl
theorem j13:(Rows.fnSchemaCheckRow.maps == (Tryz.f3.params.toList++Rows.fnSchemaCheckSpec.plain.varTypes Tryz.prog).any (Tryz.prog.mapsRec ·))=true:=by kernel_rfl
theorem j14:(Rows.fnSchemaCheckRow.ifaces == (Tryz.f3.params.toList++Rows.fnSchemaCheckSpec.plain.varTypes Tryz.prog).any (Tryz.prog.ifacesRec ·))=true:=by kernel_rfl
theorem j15:(Rows.fnSchemaCheckRow.mapsOut == Tryz.prog.mapsAmong Tryz.f3.resultTypes.toList)=true:=by kernel_rfl
theorem j16:(Rows.fnSchemaCheckRow.loops == (Tryz.f3.params.toList++Rows.fnSchemaCheckSpec.plain.varTypes Tryz.prog).any (Tryz.prog.loopsFrom ·))=true:=by kernel_rfl
theorem j17:(Rows.fnSchemaCheckRow.wideKeys == (Tryz.f3.params.toList++Rows.fnSchemaCheckSpec.plain.varTypes Tryz.prog++Tryz.f3.resultTypes.toList).any (Tryz.prog.wideKeysFrom ·))=true:=by kernel_rfl
theorem j18:(Rows.fnSchemaCheckSpec.vars.all (Tryz.prog.varReadable ·))=true:=by kernel_rfl
theorem j19:(Tryz.f3.resultTypes.all (fun t=>Tryz.prog.readableRec t&&decide (t<Tryz.prog.types.size)))=true:=by kernel_rfl
theorem j20:(Rows.fnSchemaCheckRow.ifacesOut == Tryz.f3.resultTypes.toList.any (Tryz.prog.ifacesRec ·))=true:=by kernel_rfl
theorem j21:(Rows.fnSchemaCheckRow.loopsOut == Tryz.f3.resultTypes.toList.any (Tryz.prog.loopsFrom ·))=true:=by kernel_rfl
theorem j22:(Rows.fnSchemaCheckRow.plainKeys == Tryz.prog.plainKeys)=true:=by kernel_rfl
theorem j23:(Rows.fnSchemaCheckRow.shortTexts.isNone)=true:=by kernel_rfl
theorem j26:(Rows.fnSchemaCheckRow.lifted == Tryz.prog.liftsFinal)=true:=Jo.lifted
theorem j27:(Tryz.prog.make == some Rows.fnSchemaCheckRow.make)=true:=by kernel_rfl
theorem j28:Rows.fnSchemaCheckRow.domain=[]:=rfl
theorem j29:Rows.fnSchemaCheckRow.kinds=[]:=rfl
theorem j30:(Rows.fnSchemaCheckRow.pinned == Rows.fnSchemaCheckRow.pinnedBy)=true:=by kernel_rfl
theorem j31:(Rows.fnSchemaCheckRow.veiled == (Tryz.f3.params.toList++Rows.fnSchemaCheckSpec.plain.varTypes Tryz.prog++Tryz.f3.resultTypes.toList).any (Tryz.prog.veiledRec ·))=true:=by kernel_rfl
theorem j32:(Rows.fnSchemaCheckRow.veiledFits Tryz.prog Tryz.f3.params.toList (Tryz.f3.params.toList++Rows.fnSchemaCheckSpec.plain.varTypes Tryz.prog++Tryz.f3.resultTypes.toList))=true:=by kernel_rfl
theorem closed:joinedFacts Tryz.prog 3 Tryz.f3 Rows.fnSchemaCheckSpec Rows.fnSchemaCheckRow=true:=Jo.joined j0 Jo.laidOut Jo.mapsRowed j3 j4 j5 Jo.stops j7 Jo.stopKnobs j9 j10 j11 j12 j13 j14 j15 j16 j17 j18 j19 j20 j21 j22 j23 Jo.stopsHeard Jo.mayEnter j26 j27 j28 j29 j30 j31 j32
end Go.Proofs.YtbmoiajdknejnaaGreat.fnSchemaCheck
