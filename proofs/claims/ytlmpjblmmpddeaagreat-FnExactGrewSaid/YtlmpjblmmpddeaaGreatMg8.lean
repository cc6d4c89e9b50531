/- Jo and what follows it, one behind another. -/
import Derived.Test.YtlmpjblmmpddeaaGreatRows
import Derived.JoinedOf
import Derived.WalkKit
import Derived.ProofKit
import Derived.KernelRfl
namespace Go.Proofs.YtlmpjblmmpddeaaGreat.Jo
theorem both {a b:Bool} (ha:a=true) (hb:b=true):(a&&b)=true:=by rw[ha,hb];rfl
theorem joined {P:Program}{f:FuncId}{fn:Func}{s:ChangeSpec}{c:OpenClaim} (h0:(c.wf (OpenSpec.ofChange s))=true) (h1:(laidOutB P)=true) (h2:(Go.mapsRowed P)=true) (h3:(fn.params.all (P.readableRec ·))=true) (h4:(namedTie P c.named s.vars)=true) (h5:(c.stops == [])=true) (h6:(P.stops == [])=true) (h7:(c.knobs == [])=true) (h8:(P.stopKnobs == [])=true) (h9:(c.inPlace == P.inPlace f)=true) (h10:(c.unfollowed == P.unfollowed f)=true) (h11:(c.recurses == P.recurses f)=true) (h12:(c.named == P.varsNamed f)=true) (h13:(c.maps == (fn.params.toList++s.plain.varTypes P).any (P.mapsRec ·))=true) (h14:(c.ifaces == (fn.params.toList++s.plain.varTypes P).any (P.ifacesRec ·))=true) (h15:(c.mapsOut == P.mapsAmong fn.resultTypes.toList)=true) (h16:(c.loops == (fn.params.toList++s.plain.varTypes P).any (P.loopsFrom ·))=true) (h17:(c.wideKeys == (fn.params.toList++s.plain.varTypes P++fn.resultTypes.toList).any (P.wideKeysFrom ·))=true) (h18:(s.vars.all (P.varReadable ·))=true) (h19:(fn.resultTypes.all (fun t=>P.readableRec t&&decide (t<P.types.size)))=true) (h20:(c.ifacesOut == fn.resultTypes.toList.any (P.ifacesRec ·))=true) (h21:(c.loopsOut == fn.resultTypes.toList.any (P.loopsFrom ·))=true) (h22:(c.plainKeys == P.plainKeys)=true) (h23:(c.shortTexts.isNone)=true) (h24:(P.stopsHeard)=true) (h25:(P.mayEnter)=true) (h26:(c.lifted == P.liftsFinal)=true) (h27:(P.make == some c.make)=true) (h28:c.domain=[]) (h28b:c.kinds=[]) (h29:(c.pinned == c.pinnedBy)=true) (h30:(c.veiled == (fn.params.toList++s.plain.varTypes P++fn.resultTypes.toList).any (P.veiledRec ·))=true) (h31:(c.veiledFits P fn.params.toList (fn.params.toList++s.plain.varTypes P++fn.resultTypes.toList))=true):joinedFacts P f fn s c=true:=both (both (both (both (both (both (both (both (both (both (both (both (both (both (both (both (both (both (both (both (both (both (both (both (both (both (both (both (both (both (both (h0) h1) h2) h3) h4) h5) h6) h7) h8) h9) h10) h11) h12) h13) h14) h15) h16) h17) h18) h19) h20) h21) h22) h23) h24) h25) h26) h27) (show (c.kinds == (if c.domain.isEmpty then [] else fn.params.toList.map fun t=>match P.underlying t with | some (.int k)=>some k | _=>none))=true by rw[h28,h28b];rfl)) h29) h30) h31
theorem laidOut:laidOutB Tryz.prog=true:=by kernel_rfl
theorem mapsRowed:mapsRowed Tryz.prog=true:=by kernel_rfl
theorem stops:(Tryz.prog.stops == [])=true:=by kernel_rfl
theorem stopKnobs:(Tryz.prog.stopKnobs == [])=true:=by kernel_rfl
theorem stopsHeard:Tryz.prog.stopsHeard=true:=by kernel_rfl
theorem mayEnter:Tryz.prog.mayEnter=true:=by kernel_rfl
theorem lifted:(false == Tryz.prog.liftsFinal)=true:=by kernel_rfl
end Go.Proofs.YtlmpjblmmpddeaaGreat.Jo
namespace Go.Proofs.YtlmpjblmmpddeaaGreat.fnExactGrew
open Go.ChangeShapes Go.WideShapes Go.RowKit
theorem j0:(Rows.fnExactGrewRow.wf (OpenSpec.ofChange Rows.fnExactGrewSpec))=true:=by kernel_rfl
theorem j3:(Tryz.f5.params.all (Tryz.prog.readableRec ·))=true:=by kernel_rfl
theorem j4:(namedTie Tryz.prog Rows.fnExactGrewRow.named Rows.fnExactGrewSpec.vars)=true:=by kernel_rfl
theorem j5:(Rows.fnExactGrewRow.stops == [])=true:=by kernel_rfl
theorem j7:(Rows.fnExactGrewRow.knobs == [])=true:=by kernel_rfl
theorem j9:(Rows.fnExactGrewRow.inPlace == Tryz.prog.inPlace 5)=true:=by kernel_rfl
theorem j10:(Rows.fnExactGrewRow.unfollowed == Tryz.prog.unfollowed 5)=true:=by kernel_rfl
theorem j11:(Rows.fnExactGrewRow.recurses == Tryz.prog.recurses 5)=true:=by kernel_rfl
theorem j12:(Rows.fnExactGrewRow.named == Tryz.prog.varsNamed 5)=true:=by kernel_rfl
theorem j13:(Rows.fnExactGrewRow.maps == (Tryz.f5.params.toList++Rows.fnExactGrewSpec.plain.varTypes Tryz.prog).any (Tryz.prog.mapsRec ·))=true:=by kernel_rfl
theorem j14:(Rows.fnExactGrewRow.ifaces == (Tryz.f5.params.toList++Rows.fnExactGrewSpec.plain.varTypes Tryz.prog).any (Tryz.prog.ifacesRec ·))=true:=by kernel_rfl
theorem j15:(Rows.fnExactGrewRow.mapsOut == Tryz.prog.mapsAmong Tryz.f5.resultTypes.toList)=true:=by kernel_rfl
theorem j16:(Rows.fnExactGrewRow.loops == (Tryz.f5.params.toList++Rows.fnExactGrewSpec.plain.varTypes Tryz.prog).any (Tryz.prog.loopsFrom ·))=true:=by kernel_rfl
theorem j17:(Rows.fnExactGrewRow.wideKeys == (Tryz.f5.params.toList++Rows.fnExactGrewSpec.plain.varTypes Tryz.prog++Tryz.f5.resultTypes.toList).any (Tryz.prog.wideKeysFrom ·))=true:=by kernel_rfl
theorem j18:(Rows.fnExactGrewSpec.vars.all (Tryz.prog.varReadable ·))=true:=by kernel_rfl
theorem j19:(Tryz.f5.resultTypes.all (fun t=>Tryz.prog.readableRec t&&decide (t<Tryz.prog.types.size)))=true:=by kernel_rfl
theorem j20:(Rows.fnExactGrewRow.ifacesOut == Tryz.f5.resultTypes.toList.any (Tryz.prog.ifacesRec ·))=true:=by kernel_rfl
theorem j21:(Rows.fnExactGrewRow.loopsOut == Tryz.f5.resultTypes.toList.any (Tryz.prog.loopsFrom ·))=true:=by kernel_rfl
theorem j22:(Rows.fnExactGrewRow.plainKeys == Tryz.prog.plainKeys)=true:=by kernel_rfl
theorem j23:(Rows.fnExactGrewRow.shortTexts.isNone)=true:=by kernel_rfl
theorem j26:(Rows.fnExactGrewRow.lifted == Tryz.prog.liftsFinal)=true:=Jo.lifted
theorem j27:(Tryz.prog.make == some Rows.fnExactGrewRow.make)=true:=by kernel_rfl
theorem j28:Rows.fnExactGrewRow.domain=[]:=rfl
theorem j29:Rows.fnExactGrewRow.kinds=[]:=rfl
theorem j30:(Rows.fnExactGrewRow.pinned == Rows.fnExactGrewRow.pinnedBy)=true:=by kernel_rfl
theorem j31:(Rows.fnExactGrewRow.veiled == (Tryz.f5.params.toList++Rows.fnExactGrewSpec.plain.varTypes Tryz.prog++Tryz.f5.resultTypes.toList).any (Tryz.prog.veiledRec ·))=true:=by kernel_rfl
theorem j32:(Rows.fnExactGrewRow.veiledFits Tryz.prog Tryz.f5.params.toList (Tryz.f5.params.toList++Rows.fnExactGrewSpec.plain.varTypes Tryz.prog++Tryz.f5.resultTypes.toList))=true:=by kernel_rfl
theorem closed:joinedFacts Tryz.prog 5 Tryz.f5 Rows.fnExactGrewSpec Rows.fnExactGrewRow=true:=Jo.joined j0 Jo.laidOut Jo.mapsRowed j3 j4 j5 Jo.stops j7 Jo.stopKnobs j9 j10 j11 j12 j13 j14 j15 j16 j17 j18 j19 j20 j21 j22 j23 Jo.stopsHeard Jo.mayEnter j26 j27 j28 j29 j30 j31 j32
end Go.Proofs.YtlmpjblmmpddeaaGreat.fnExactGrew
