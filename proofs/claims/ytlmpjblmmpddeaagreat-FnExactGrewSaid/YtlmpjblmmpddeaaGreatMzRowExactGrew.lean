/- FnExactGrew: for all pairs of schemas that are handed in, the law answers true and leaves them as they were. -/
import Derived.Test.YtlmpjblmmpddeaaGreatRows
import Derived.Test.YtlmpjblmmpddeaaGreatMg7
import Derived.Test.YtlmpjblmmpddeaaGreatMg4
import Derived.Test.YtlmpjblmmpddeaaGreatMg8
import Derived.WalkKit
import Derived.ProofKit
import Derived.OpenShut
import Derived.ChangeOld
import Derived.Below
import Derived.SizedLaws
namespace Go.Proofs.YtlmpjblmmpddeaaGreat.fnExactGrew
open Go.ChangeShapes Go.WideShapes Go.ChangeAt Go.RowKit Go.Sh
set_option linter.unusedVariables false
theorem own:ownKnob Tryz.prog.godebug=none:=by kernel_rfl
theorem laidOut:laidOutB Tryz.prog=true:=Jo.laidOut
set_option maxRecDepth 100000 in
theorem lifted (os:Os) (started:os.Started) (H:Type) (enc:TypeId×Value→H) :
    ReturnsInHanded {} Tryz.checked os 5 .any (Rows.fnExactGrewSpec.pre6 enc Tryz.prog Tryz.f5 Rows.fnExactGrewRow.domain false) (Rows.fnExactGrewSpec.post enc Tryz.prog Tryz.f5 false true false false):=by
  refine returnsInHanded_of_change_sized (C:=Tryz.checked) own started (by kernel_rfl) Tryz.func5
    (ChangeSpec.witness6 (enc:=enc) (C:=Tryz.checked) false ⟨#[], #[.slice none 0 0, .slice none 0 0],[]⟩ 8 (by kernel_rfl) (by kernel_rfl) (by kernel_rfl) (by kernel_rfl)) ?_
  intro W base args ds gs before hval0 hW hcnd hsz0 _
  have hsz:(DataW.weightsEach Tryz.prog (Tryz.f5.params.toList++Rows.fnExactGrewSpec.plain.varTypes Tryz.prog) (ds++gs)).all (·≤reachBytes)=true:=hsz0
  have hval:∀ (j:Nat) t v,Tryz.f5.params[j]?=some t→args[j]?=some v→Value.okWide Tryz.prog W .any base t v:=hval0
  have hW':=hW
  obtain⟨p,q,hA0,hV,rfl,hfz,hnd⟩:=hW
  have hA:DataW.TrodAll enc Tryz.prog W 0 (fun _=>true) true Tryz.f5.params.toList args.toList ds p:=hA0
  rw[Tryz.params5] at hA hval hsz
  obtain⟨v0,vs0,d0,ds0,p0,q0,hargs0,rfl,rfl,h0,r0⟩:=trodAll_cons hA
  obtain⟨v1,vs1,d1,ds1,p1,q1,hargs1,rfl,rfl,h1,r1⟩:=trodAll_cons r0
  obtain⟨rfl,rfl,rfl⟩:=trodAll_nil r1
  obtain rfl:args = #[v0,v1]:=by cases args;simp_all
  obtain⟨rfl,rfl⟩:=trodVars_none hV
  have k0:=h0
  have lt0:∀ x∈p0,x.block<W.heap.size:=by obtain⟨m,hm⟩:=k0;exact DataW.trod_lt m _ _ _ hm
  have hw0:∀ m∈d0.weights Tryz.prog 42,m≤reachBytes:=by
    intro m hm
    have:=List.all_eq_true.1 hsz m (DataW.weights_mem_each (j:=0) (t:=42) (d:=d0) rfl rfl m hm)
    simpa using this
  obtain⟨a0,ok0,hp0⟩:=Opens.arg1 opens_defs h0 (okWide_one (by kernel_rfl) (hval 0 42 v0 rfl rfl)) hw0
  have k1:=h1
  have lt1:∀ x∈p1,x.block<W.heap.size:=by obtain⟨m,hm⟩:=k1;exact DataW.trod_lt m _ _ _ hm
  have hw1:∀ m∈d1.weights Tryz.prog 42,m≤reachBytes:=by
    intro m hm
    have:=List.all_eq_true.1 hsz m (DataW.weights_mem_each (j:=1) (t:=42) (d:=d1) rfl rfl m hm)
    simpa using this
  obtain⟨a1,ok1,hp1⟩:=Opens.arg1 opens_defs h1 (okWide_one (by kernel_rfl) (hval 1 42 v1 rfl rfl)) hw1
  refine ((p_lawGrew a0 a1 ok0.1 ok0.2 ok1.1 ok1.2).2 (markAll W) W [_,_] (markAll_new W) ⟨nofun,fun h=>absurd rfl h⟩ rfl (fun j hj hj'=>?_)).mono fun e W' ⟨u,m',he,hu,_,_,bel,_⟩=>?_
  · have:j<2:=by simpa using hj
    match j,this with
    | 0,_=>exact hp0
    | 1,_=>exact hp1
  subst he
  cases hu with
  | v _ =>
  exact⟨_,rfl,_,_,_,[],_,[],hW',trodAll_mk1 (shut_bool (by kernel_rfl) _),(trodAll_cons_mk (Below.trod laidOut (by kernel_rfl) (of_decide_eq_true (by kernel_rfl)) k0 bel lt0) (trodAll_cons_mk (Below.trod laidOut (by kernel_rfl) (of_decide_eq_true (by kernel_rfl)) k1 bel lt1) trodAll_mk0)),rfl,bel.frame _,fun h=>by cases h⟩
theorem over:Rows.FnExactGrewSaid :=
  OpenClaim.holds_of_wide 5 Tryz.f5 rfl rfl rfl rfl rfl rfl rfl ⟨rfl,rfl,rfl,rfl,rfl⟩ rfl rfl rfl rfl rfl (by kernel_rfl) Tryz.func5 closed
    (of_decide_eq_true (by kernel_rfl)) (by unfold Func.isWrapper;first | (rw[if_pos (by decide +kernel)];kernel_rfl)|(rw[if_neg (by decide +kernel)];exact⟨rfl,rfl⟩))
    (fun os started H enc _=>lifted os started H enc)
theorem proved:Rows.FnExactGrewSaid:=over
end Go.Proofs.YtlmpjblmmpddeaaGreat.fnExactGrew
namespace Go.Proofs.YtlmpjblmmpddeaaGreat
theorem fnExactGrew_holds:Rows.FnExactGrewSaid:=fnExactGrew.proved
end Go.Proofs.YtlmpjblmmpddeaaGreat
