/- FnExactSchemaWords: for all schemas, names and words that are handed in, the law answers true and leaves them as they were. -/
import Derived.Test.YtbmoiajdknejnaaGreatRows
import Derived.Test.YtbmoiajdknejnaaGreatMg9
import Derived.Test.YtbmoiajdknejnaaGreatMg4
import Derived.Test.YtbmoiajdknejnaaGreatMg10
import Derived.WalkKit
import Derived.ProofKit
import Derived.OpenShut
import Derived.ChangeOld
import Derived.Below
import Derived.SizedLaws
namespace Go.Proofs.YtbmoiajdknejnaaGreat.fnExactSchemaWords
open Go.ChangeShapes Go.WideShapes Go.ChangeAt Go.RowKit Go.Sh
set_option linter.unusedVariables false
theorem own:ownKnob Tryz.prog.godebug=none:=by kernel_rfl
theorem laidOut:laidOutB Tryz.prog=true:=Jo.laidOut
set_option maxRecDepth 100000 in
theorem lifted (os:Os) (started:os.Started) (H:Type) (enc:TypeId×Value→H) :
    ReturnsInHanded {} Tryz.checked os 9 .any (Rows.fnExactSchemaWordsSpec.pre6 enc Tryz.prog Tryz.f9 Rows.fnExactSchemaWordsRow.domain false) (Rows.fnExactSchemaWordsSpec.post enc Tryz.prog Tryz.f9 false true false false):=by
  refine returnsInHanded_of_change_sized (C:=Tryz.checked) own started (by kernel_rfl) Tryz.func9
    (ChangeSpec.witness6 (enc:=enc) (C:=Tryz.checked) false ⟨#[], #[.slice none 0 0, .string ⟨#[]⟩, .string ⟨#[]⟩],[]⟩ 8 (by kernel_rfl) (by kernel_rfl) (by kernel_rfl) (by kernel_rfl)) ?_
  intro W base args ds gs before hval0 hW hcnd hsz0 _
  have hsz:(DataW.weightsEach Tryz.prog (Tryz.f9.params.toList++Rows.fnExactSchemaWordsSpec.plain.varTypes Tryz.prog) (ds++gs)).all (·≤reachBytes)=true:=hsz0
  have hval:∀ (j:Nat) t v,Tryz.f9.params[j]?=some t→args[j]?=some v→Value.okWide Tryz.prog W .any base t v:=hval0
  have hW':=hW
  obtain⟨p,q,hA0,hV,rfl,hfz,hnd⟩:=hW
  have hA:DataW.TrodAll enc Tryz.prog W 0 (fun _=>true) true Tryz.f9.params.toList args.toList ds p:=hA0
  rw[Tryz.params9] at hA hval hsz
  obtain⟨v0,vs0,d0,ds0,p0,q0,hargs0,rfl,rfl,h0,r0⟩:=trodAll_cons hA
  obtain⟨v1,vs1,d1,ds1,p1,q1,hargs1,rfl,rfl,h1,r1⟩:=trodAll_cons r0
  obtain⟨v2,vs2,d2,ds2,p2,q2,hargs2,rfl,rfl,h2,r2⟩:=trodAll_cons r1
  obtain⟨rfl,rfl,rfl⟩:=trodAll_nil r2
  obtain rfl:args = #[v0,v1,v2]:=by cases args;simp_all
  obtain⟨rfl,rfl⟩:=trodVars_none hV
  have k0:=h0
  have lt0:∀ x∈p0,x.block<W.heap.size:=by obtain⟨m,hm⟩:=k0;exact DataW.trod_lt m _ _ _ hm
  have hw0:∀ m∈d0.weights Tryz.prog 42,m≤reachBytes:=by
    intro m hm
    have:=List.all_eq_true.1 hsz m (DataW.weights_mem_each (j:=0) (t:=42) (d:=d0) rfl rfl m hm)
    simpa using this
  obtain⟨a0,ok0,hp0⟩:=Opens.arg1 opens_defs h0 (okWide_one (by kernel_rfl) (hval 0 42 v0 rfl rfl)) hw0
  have k1:=h1
  have lt1:∀ x∈p1,x.block<W.heap.size:=by obtain⟨m,hm⟩:=k1;exact DataW.trod_lt m _ _ _ hm
  have hw1:∀ m∈d1.weights Tryz.prog 9,m≤reachBytes:=by
    intro m hm
    have:=List.all_eq_true.1 hsz m (DataW.weights_mem_each (j:=1) (t:=9) (d:=d1) rfl rfl m hm)
    simpa using this
  obtain⟨a1,ok1,hp1⟩:=Opens.arg1 (fun n=>Opens.string (by kernel_rfl) n) h1 (okWide_one (by kernel_rfl) (hval 1 9 v1 rfl rfl)) hw1
  have k2:=h2
  have lt2:∀ x∈p2,x.block<W.heap.size:=by obtain⟨m,hm⟩:=k2;exact DataW.trod_lt m _ _ _ hm
  have hw2:∀ m∈d2.weights Tryz.prog 9,m≤reachBytes:=by
    intro m hm
    have:=List.all_eq_true.1 hsz m (DataW.weights_mem_each (j:=2) (t:=9) (d:=d2) rfl rfl m hm)
    simpa using this
  obtain⟨a2,ok2,hp2⟩:=Opens.arg1 (fun n=>Opens.string (by kernel_rfl) n) h2 (okWide_one (by kernel_rfl) (hval 2 9 v2 rfl rfl)) hw2
  refine ((p_lawSchemaWords (gl:=fun _=>none) a0 a1 a2 ok0.1 ok0.2 (Nat.le_trans ok1 (by omega)) (Nat.le_trans ok2 (by omega))).2 (markAll W) W [_,_,_] (markAll_new W) ⟨nofun,fun h=>absurd rfl h⟩ rfl (fun j hj hj'=>?_)).mono fun e W' ⟨u,m',he,hu,_,_,bel,_⟩=>?_
  · have:j<3:=by simpa using hj
    match j,this with
    | 0,_=>exact hp0
    | 1,_=>exact hp1
    | 2,_=>exact hp2
  subst he
  cases hu with
  | v _ =>
  exact⟨_,rfl,_,_,_,[],_,[],hW',trodAll_mk1 (shut_bool (by kernel_rfl) _),(trodAll_cons_mk (Below.trod laidOut (by kernel_rfl) (of_decide_eq_true (by kernel_rfl)) k0 bel lt0) (trodAll_cons_mk (Below.trod laidOut (by kernel_rfl) (of_decide_eq_true (by kernel_rfl)) k1 bel lt1) (trodAll_cons_mk (Below.trod laidOut (by kernel_rfl) (of_decide_eq_true (by kernel_rfl)) k2 bel lt2) trodAll_mk0))),rfl,bel.frame _,fun h=>by cases h⟩
theorem over:Rows.FnExactSchemaWordsSaid :=
  OpenClaim.holds_of_wide 9 Tryz.f9 rfl rfl rfl rfl rfl rfl rfl ⟨rfl,rfl,rfl,rfl,rfl⟩ rfl rfl rfl rfl rfl (by kernel_rfl) Tryz.func9 closed
    (of_decide_eq_true (by kernel_rfl)) (by unfold Func.isWrapper;first | (rw[if_pos (by decide +kernel)];kernel_rfl)|(rw[if_neg (by decide +kernel)];exact⟨rfl,rfl⟩))
    (fun os started H enc _=>lifted os started H enc)
theorem proved:Rows.FnExactSchemaWordsSaid:=over
end Go.Proofs.YtbmoiajdknejnaaGreat.fnExactSchemaWords
namespace Go.Proofs.YtbmoiajdknejnaaGreat
theorem fnExactSchemaWords_holds:Rows.FnExactSchemaWordsSaid:=fnExactSchemaWords.proved
end Go.Proofs.YtbmoiajdknejnaaGreat
