/- Gh and what follows it, one behind another. -/
import Derived.Test.YtbmoiajdknejnaaGreatMg7
import Derived.Test.YtbmoiajdknejnaaGreatMg6
set_option linter.unusedVariables false
set_option linter.unusedSimpArgs false
set_option maxRecDepth 100000
namespace Go.Proofs.YtbmoiajdknejnaaGreat
open Go.Sh
variable {gl:Nat→Option D}
theorem l_markRow (e:Bool) (lv:List Val) (X:Ld) (hX:X.sh=skR e lv.length (valsSk e lv)) (S1:St) (z:Int) (q:Nat) (hz:z=(q:Int)) (h1:1≤q) (hq:q+cntVs lv≤1073741824) (hv1:∀ p∈X.vars,S1.B p.1=some p.2∧p.1<S1.nx) (hv2:(X.vars.map (fun p=>p.1)).Nodup) :
    ∃ S',LCall Tryz.prog 148 [X.sv, .d (dI z)] S1 (.d (dI ((q+cntVs lv:Nat):Int))) S'∧Marked S1 S' (rowMap (fun cs=>markLds lv cs q) X).vars:=by
  subst hz
  rcases ld_row hX with ⟨rfl,h0,_⟩ | ⟨bx,csx,rfl,h2,_⟩
  · have:lv=[]:=List.eq_nil_of_length_eq_zero h0
    subst this
    exact⟨S1,LCall.ofP (k:=1) (p_markValueS_nil (gl:=S1.gl) q) rfl,Marked.refl S1⟩
  · have hids:=(markLds_sh lv csx q h2).2
    refine⟨_,l_markValueS e lv S1 bx q csx h2 ⟨?_,?_,?_⟩ (by omega) (by omega),?_⟩
    · simpa[varsL] using fun p hp=>(hv1 p hp).1
    · simpa[varsL] using hv2
    · simpa[varsL] using fun p hp=>(hv1 p hp).2
    · refine Marked.left ?_
      simp only[ids] at hids
      simp only[List.map_cons,hids]
      simpa[Ld.vars] using hv2
mutual
def Sk.leaf:Sk→Nat
  | .d _=>1
  | .nil=>0
  | .row _ _ cs=>leafL cs
def leafL:List Sk→Nat
  | []=>0
  | x::r=>x.leaf+leafL r
end
def mkV:Value→Nat→Value
  | .int k _,q=>.int k q
  | .string _,q=>.string (markT q)
  | .bool _,q=>.bool (decide (q % 3=0))
  | v,_=>v
mutual
def Sk.mk:Sk→Nat→Sk
  | .d v,q=>.d (mkV v q)
  | .nil,_=>.nil
  | .row z n cs,q=>.row z n (mkS cs q)
def mkS:List Sk→Nat→List Sk
  | [],_=>[]
  | x::r,q=>x.mk q::mkS r (q+x.leaf)
end
mutual
def Ld.mk:Ld→Nat→Ld
  | .d v,q=>.d (mkV v q)
  | .nil,_=>.nil
  | .row z b n cs,q=>.row z b n (mkL cs q)
def mkL:List Ld→Nat→List Ld
  | [],_=>[]
  | x::r,q=>x.mk q::mkL r (q+x.sh.leaf)
end
theorem leafL_app:∀ a b:List Sk,leafL (a++b)=leafL a+leafL b
  | [],b=>by simp[leafL]
  | x::r,b=>by simp[leafL,leafL_app r b];omega
theorem mkL_app:∀ (a b:List Ld) (q:Nat),mkL (a++b) q=mkL a q++mkL b (q+leafL (shs a))
  | [],b,q=>by simp[mkL,shs,leafL]
  | x::r,b,q=>by simp[mkL,shs,leafL,mkL_app r b,Nat.add_assoc]
theorem mkS_app:∀ (a b:List Sk) (q:Nat),mkS (a++b) q=mkS a q++mkS b (q+leafL a)
  | [],b,q=>by simp[mkS,leafL]
  | x::r,b,q=>by simp[mkS,leafL,mkS_app r b,Nat.add_assoc]
mutual
theorem mk_leaf:∀ (x:Sk) (q:Nat),(x.mk q).leaf=x.leaf
  | .d v,q=>by simp[Sk.mk,Sk.leaf]
  | .nil,q=>by simp[Sk.mk,Sk.leaf]
  | .row z n cs,q=>by simp[Sk.mk,Sk.leaf,mkS_leaf cs q]
theorem mkS_leaf:∀ (cs:List Sk) (q:Nat),leafL (mkS cs q)=leafL cs
  | [],q=>by simp[mkS,leafL]
  | x::r,q=>by simp[mkS,leafL,mk_leaf x q,mkS_leaf r]
end
mutual
theorem mk_sh:∀ (x:Ld) (q:Nat),(x.mk q).sh=x.sh.mk q
  | .d v,q=>by simp[Ld.mk,Ld.sh,Sk.mk]
  | .nil,q=>by simp[Ld.mk,Ld.sh,Sk.mk]
  | .row z b n cs,q=>by simp[Ld.mk,Ld.sh,Sk.mk,mkL_sh cs q]
theorem mkL_sh:∀ (cs:List Ld) (q:Nat),shs (mkL cs q)=mkS (shs cs) q
  | [],q=>by simp[mkL,shs,mkS]
  | x::r,q=>by simp[mkL,shs,mkS,mk_sh x q,mkL_sh r]
end
mutual
theorem mk_ids:∀ (x:Ld) (q:Nat),(x.mk q).vars.map (fun p=>p.1)=x.vars.map (fun p=>p.1)
  | .d v,q=>by simp[Ld.mk,Ld.vars]
  | .nil,q=>by simp[Ld.mk,Ld.vars]
  | .row z b n cs,q=>by simp[Ld.mk,Ld.vars,mkL_ids cs q]
theorem mkL_ids:∀ (cs:List Ld) (q:Nat),(varsL (mkL cs q)).map (fun p=>p.1)=(varsL cs).map (fun p=>p.1)
  | [],q=>by simp[mkL,varsL]
  | x::r,q=>by simp[mkL,varsL,mk_ids x q,mkL_ids r]
end
theorem mark_bool {m:Nat}{z:Int} (h:z=(m:Int)):decide (z.tmod 3=0)=decide (m % 3=0):=by
  subst h
  have:((m:Int).tmod 3=0)↔(m % 3=0):=by
    rw[Int.tmod_eq_emod_of_nonneg (by omega)];omega
  simp only[this]
def Ld.rowish:Ld→Bool
  | .d _=>false
  | _=>true
theorem mk_sv {x:Ld} (h:x.rowish=true) (q:Nat):(x.mk q).sv=x.sv:=by
  cases x with
  | d v=>cases h
  | nil=>simp[Ld.mk]
  | row z b n cs=>simp[Ld.mk]
theorem rowish_sk {e:Bool}{n:Nat}{cs:List Sk}{X:Ld} (h:X.sh=skR e n cs):X.rowish=true:=by
  rcases ld_row h with ⟨rfl,_⟩ | ⟨b,c,rfl,_⟩<;>rfl
structure Went (S S':St) (V:List Nat):Prop where
  n:S'.n=S.n
  nx:S'.nx=S.nx
  gl:S'.gl=S.gl
  md:S'.md=S.md
  old:∀ x,x<S.nx→x∉V→S'.B x=S.B x
  T:∀ x,x<S.nx→S'.T x=S.T x
theorem Went.refl (S:St) (V:List Nat):Went S S V:=⟨rfl,rfl,rfl,rfl,fun _ _ _=>rfl,fun _ _=>rfl⟩
theorem Marked.went {S S':St}{V:List (Nat×List SV)} (h:Marked S S' V):Went S S' (V.map (fun p=>p.1)):=⟨h.n,h.nx,h.gl,h.md,h.old,h.T⟩
theorem Old.went {S0 S S':St}{bs V:List Nat} (ho:Old S0 bs [] S) (h:Went S S' V) (hx:S0.nx≤S.nx) (hV:∀ x∈V,x∈bs):Old S0 bs [] S':=fun x hlt=>by
  have h0:=ho x hlt
  refine⟨fun hb=>?_,fun ht=>?_⟩
  · rw[h.old x (by omega) (fun hv=>hb (hV x hv))];exact h0.1 hb
  · rw[h.T x (by omega)];exact h0.2 ht
def MarksX (f:Nat) (X:Ld):Prop:=∀ (S:St) (hi q:Nat),1≤q→q+X.sh.leaf≤1073741824→hi≤S.nx→At S 0 hi [X] →
  ∃ S',LCall Tryz.prog f [X.sv, .d (dI q)] S (.d (dI ((q+X.sh.leaf:Nat):Int))) S'∧Went S S' (X.vars.map (fun p=>p.1))∧At S' 0 hi [X.mk q]
theorem At.put {S S':St}{lo hi b n:Nat}{z:Option Nat}{cs cs':List Ld} (ha:At S lo hi [.row z b n cs]) (hv:varsL cs'=varsL cs) (h1:S'.B b=some (svs cs')) (h2:∀ x,x<hi→x≠b→S'.B x=S.B x):At S' lo hi [.row z b n cs']:=by
  have hr:=ha.rng
  have hn:=ha.nodup
  have hh:=ha.has
  simp only[varsL,Ld.vars,List.append_nil,List.map_cons,List.nodup_cons,List.forall_mem_cons] at hr hn hh
  refine⟨?_,?_,?_⟩
  · simp only[varsL,Ld.vars,List.append_nil,List.forall_mem_cons,hv]
    refine⟨h1,fun p hp=>?_⟩
    rw[h2 p.1 (hr.2 p hp).2 (fun e=>hn.1 (List.mem_map.2 ⟨p,hp,e⟩))]
    exact hh.2 p hp
  · simpa only [varsL,Ld.vars,List.append_nil,List.map_cons,List.nodup_cons,hv] using hn
  · simpa only [varsL,Ld.vars,List.append_nil,List.forall_mem_cons,hv] using hr
theorem At.marks {S S':St}{lo hi b n q:Nat}{z:Option Nat}{A R:List Ld}{X:Ld} (ha:At S lo hi [.row z b n (A++X::R)]) (hx:hi≤S.nx) (hX:X.rowish=true) (hw:Went S S' (X.vars.map (fun p=>p.1))) (hm:At S' 0 hi [X.mk q]):At S' lo hi [.row z b n (A++X.mk q::R)]:=by
  have hr:=ha.rng
  have hn:=ha.nodup
  have hh:=ha.has
  have e:∀ Y:Ld,varsL [.row z b n (A++Y::R)]=(b,svs (A++Y::R))::(varsL A++(Y.vars++varsL R)):=fun Y=>by simp[varsL,Ld.vars,varsL_app]
  have es:svs (A++X.mk q::R)=svs (A++X::R):=by simp[mk_sv hX]
  rw[e] at hr hn hh
  simp only[List.map_cons,List.map_append,List.nodup_cons,List.mem_append,not_or] at hn
  obtain⟨⟨nA,nX,nR⟩,hn2⟩:=hn
  obtain⟨d1,d2,d3⟩:=List.nodup_append.1 hn2
  obtain⟨d4,d5,d6⟩:=List.nodup_append.1 d2
  have ids:=mk_ids X q
  refine⟨?_,?_,?_⟩
  · rw[e]
    intro p hp
    rcases List.mem_cons.1 hp with rfl | hp
    · have hb:=hr (b,svs (A++X::R)) (by simp)
      show S'.B b=_
      rw[hw.old b (by have:=hb.2;simp only at this;omega) nX,es]
      exact hh (b,svs (A++X::R)) (by simp)
    · rcases List.mem_append.1 hp with hp | hp
      · have hq:=hr p (by simp[hp])
        rw[hw.old p.1 (by omega) (fun h=>d3 _ (List.mem_map_of_mem hp) _ (List.mem_append.2 (.inl h)) rfl)]
        exact hh p (by simp[hp])
      · rcases List.mem_append.1 hp with hp | hp
        · exact hm.has p (by simpa[varsL] using hp)
        · have hq:=hr p (by simp[hp])
          rw[hw.old p.1 (by omega) (fun h=>d6 _ h _ (List.mem_map_of_mem hp) rfl)]
          exact hh p (by simp[hp])
  · rw[e]
    simp only[List.map_cons,List.map_append,ids,List.nodup_cons,List.mem_append,not_or]
    exact⟨⟨nA,nX,nR⟩,hn2⟩
  · rw[e]
    intro p hp
    rcases List.mem_cons.1 hp with rfl | hp
    · exact hr (b,svs (A++X::R)) (by simp)
    · rcases List.mem_append.1 hp with hp | hp
      · exact hr p (by simp[hp])
      · rcases List.mem_append.1 hp with hp | hp
        · have:p.1∈X.vars.map (fun p=>p.1):=by rw[← ids];exact List.mem_map_of_mem hp
          obtain⟨p',h',e'⟩:=List.mem_map.1 this
          rw[← e']
          exact hr p' (by simp[h'])
        · exact hr p (by simp[hp])
theorem At.part {S:St}{lo hi b n:Nat}{z:Option Nat}{A R:List Ld}{X:Ld} (ha:At S lo hi [.row z b n (A++X::R)]):At S 0 hi [X]:=by
  have e:varsL [.row z b n (A++X::R)]=(b,svs (A++X::R))::(varsL A++(X.vars++varsL R)):=by simp[varsL,Ld.vars,varsL_app]
  have e2:varsL [X]=X.vars:=by simp[varsL]
  have hr:=ha.rng
  have hn:=ha.nodup
  have hh:=ha.has
  rw[e] at hr hn hh
  refine⟨fun p hp=>?_,?_,fun p hp=>?_⟩
  · rw[e2] at hp
    exact hh p (by simp[hp])
  · rw[e2]
    simp only[List.map_cons,List.map_append,List.nodup_cons] at hn
    exact (List.nodup_append.1 (List.nodup_append.1 hn.2).2.1).1
  · rw[e2] at hp
    have:=hr p (by simp[hp])
    omega
theorem ids_part {A R:List Ld}{X:Ld}{x:Nat} (h:x∈X.vars.map (fun p=>p.1)):x∈ids (A++X::R):=by
  obtain⟨p,hp,rfl⟩:=List.mem_map.1 h
  exact List.mem_map_of_mem (by simp[varsL_app,varsL,hp])
theorem At.cells {S:St}{lo hi b n:Nat}{z:Option Nat}{cs:List Ld} (ha:At S lo hi [.row z b n cs]):S.B b=some (svs cs):=ha.has (b,svs cs) (by simp[varsL,Ld.vars])
theorem mark_part {f:Nat}{X:Ld}{S:St}{lo hi b n q:Nat}{z:Option Nat} (A R:List Ld) {zz:Int} (hX:MarksX f X) (hr:X.rowish=true) (ha:At S lo hi [.row z b n (A++X::R)]) (hx:hi≤S.nx) (hz:zz=(q:Int)) (h1:1≤q) (hq:q+X.sh.leaf≤1073741824) :
    ∃ S',LCall Tryz.prog f [X.sv, .d (dI zz)] S (.d (dI ((q+X.sh.leaf:Nat):Int))) S'∧Went S S' (X.vars.map (fun p=>p.1))∧At S' lo hi [.row z b n (A++X.mk q::R)]:=by
  subst hz
  obtain⟨S',h2,h3,h4⟩:=hX S hi q h1 hq hx ha.part
  exact⟨S',h2,h3,ha.marks hx hr h3 h4⟩
theorem marks_of {f b n:Nat}{cs:List Ld} (h:∀ (S0:St) (q:Nat),1≤q→q+leafL (shs cs)≤1073741824→At S0 0 S0.nx [.row none b n cs] →
    LCall Tryz.prog f [.os b 0 n, .d (dI q)] S0 (.d (dI ((q+leafL (shs cs):Nat):Int))) (leftS S0 0 ((b,svs (mkL cs q))::varsL (mkL cs q)) [])):MarksX f (.row none b n cs):=by
  intro S hi q h1 hq hx ha
  simp only[Ld.sh,Sk.leaf] at hq ⊢
  have hV:(Ld.mk (.row none b n cs) q).vars=(b,svs (mkL cs q))::varsL (mkL cs q):=by simp[Ld.mk,Ld.vars]
  have hids:=mk_ids (.row none b n cs) q
  have hnd:(((b,svs (mkL cs q))::varsL (mkL cs q)).map (fun p=>p.1)).Nodup:=by
    rw[← hV,hids]
    simpa[varsL] using ha.nodup
  have hM:=Marked.left (S:=S) hnd
  refine⟨_,h S q h1 hq (ha.le (Nat.le_refl _) hx),?_,?_,?_,?_⟩
  · have:=hM.went
    rw[← hV,hids] at this
    exact this
  · intro p hp
    have:p∈(b,svs (mkL cs q))::varsL (mkL cs q):=by rw[← hV];simpa[varsL] using hp
    exact hM.own p this
  · simpa[varsL,hV] using hnd
  · intro p hp
    have:p.1∈(Ld.row none b n cs).vars.map (fun p=>p.1):=by
      rw[← hids];exact List.mem_map_of_mem (by simpa[varsL] using hp)
    obtain⟨p',h',e'⟩:=List.mem_map.1 this
    rw[← e']
    exact ha.rng p' (by simpa[varsL] using h')
theorem marks_nil {f:Nat} (h:∀ (gl:Nat→Option D) (n:Nat),PCall Tryz.prog gl f [.ps [] 0,dI n] (dI n)):MarksX f .nil:=fun S hi q h1 hq hx ha =>
  ⟨S,LCall.ofP (k:=1) (h S.gl q) rfl,Went.refl S _,by simpa[Ld.mk] using ha⟩
theorem marks_end {S0 S1:St}{b n q:Nat}{cs:List Ld} (h0:At S0 0 S0.nx [.row none b n cs]) (ha:At S1 0 S0.nx [.row none b n (mkL cs q)]) (ho:Old S0 (b::ids cs) [] S1):Elder S0 (leftS S0 0 ((b,svs (mkL cs q))::varsL (mkL cs q)) []) S1:=by
  have hV:varsL [Ld.row none b n (mkL cs q)]=(b,svs (mkL cs q))::varsL (mkL cs q):=by simp[varsL,Ld.vars]
  have hh:=ha.has
  have hr:=ha.rng
  have hn:=ha.nodup
  rw[hV] at hh hr hn
  have hlt:∀ p∈varsL (mkL cs q),p.1<S0.nx:=fun p hp=>(hr p (by simp[hp])).2
  obtain⟨l1,l2⟩:=lt_lds _ hlt
  refine elder_old (bs:=b::ids cs) (ts:=[]) ho hh (by simp) (fun p hp=>?_) (by simp) (fun x hx _ hl=>?_) (by simp)
  · refine⟨(hr p hp).2,?_⟩
    rcases List.mem_cons.1 hp with rfl | hp
    · exact l1
    · exact l2 p hp
  · exfalso
    have hm:x∈((b,svs (mkL cs q))::varsL (mkL cs q)).map (fun p=>p.1):=by
      have:=mkL_ids cs q
      simp only[List.map_cons,this]
      exact hx
    obtain⟨p,hp,rfl⟩:=List.mem_map.1 hm
    rw[lookN_of hn hp] at hl
    cases hl
theorem marks_marked {S S':St}{hi q:Nat}{X:Ld} (hM:Marked S S' (X.mk q).vars) (ha:At S 0 hi [X]):Went S S' (X.vars.map (fun p=>p.1))∧At S' 0 hi [X.mk q]:=by
  have hids:=mk_ids X q
  refine⟨?_,?_,?_,?_⟩
  · have:=hM.went
    rw[hids] at this
    exact this
  · intro p hp
    exact hM.own p (by simpa[varsL] using hp)
  · have:=ha.nodup
    simp only[varsL,List.append_nil] at this ⊢
    rw[hids];exact this
  · intro p hp
    have:p.1∈X.vars.map (fun p=>p.1):=by
      rw[← hids];exact List.mem_map_of_mem (by simpa[varsL] using hp)
    obtain⟨p',h',e'⟩:=List.mem_map.1 this
    rw[← e']
    exact ha.rng p' (by simpa[varsL] using h')
theorem leaf_texts:∀ l:List ByteArray,leafL (l.map fun s=>Sk.d (.string s))=l.length
  | []=>rfl
  | s::r=>by simp[leafL,Sk.leaf,leaf_texts r];omega
theorem leaf_skR (e:Bool) {n:Nat}{cs:List Sk} (h:n=0→cs=[]):(skR e n cs).leaf=leafL cs:=by
  unfold skR
  split
  · rename_i h1;rw[h h1.1];rfl
  · rfl
theorem leaf_skS (e:Bool) (l:List ByteArray):(skS e l).leaf=l.length:=by
  unfold skS
  rw[leaf_skR e (fun h=>by rw[List.eq_nil_of_length_eq_zero h];rfl),leaf_texts]
theorem marks_cons (q n:Nat):marks q (n+1)=markT q::marks (q+1) n:=by
  unfold marks
  rw[List.range_succ_eq_map,List.map_cons,List.map_map]
  refine congrArg _ (List.map_congr_left fun i _=>?_)
  simp only[Function.comp_apply]
  congr 1;omega
theorem mkL_texts:∀ (l:List ByteArray) (q:Nat),mkL (ldT l) q=ldT (marks q l.length)
  | [],q=>by simp[mkL,marks]
  | s::r,q=>by
    have:=mkL_texts r (q+1)
    rw[List.length_cons,marks_cons]
    simp only[List.map_cons,mkL,Ld.mk,mkV,Ld.sh,Sk.leaf]
    rw[this]
theorem markNm_mk {e:Bool}{ns:List ByteArray}{Y:Ld} (hY:Y.sh=skS e ns) (q:Nat):markNm Y q=Y.mk q:=by
  rcases ld_names hY with ⟨rfl,_⟩ | ⟨b,rfl,_⟩
  · simp[markNm,Ld.mk]
  · simp[markNm,Ld.mk,mkL_texts]
theorem marks_names (e:Bool) (ns:List ByteArray) (Y:Ld) (hY:Y.sh=skS e ns):MarksX 45 Y:=by
  intro S hi q h1 hq hx ha
  have hl:Y.sh.leaf=ns.length:=by rw[hY,leaf_skS]
  rw[hl] at hq ⊢
  obtain⟨S',c1,c2⟩:=l_markNm e ns Y hY S q q rfl h1 hq (fun p hp=>⟨ha.has p (by simpa[varsL] using hp),by have:=ha.rng p (by simpa[varsL] using hp);omega⟩)
  rw[markNm_mk hY] at c2
  exact⟨S',c1,marks_marked c2 ha⟩
mutual
theorem leaf_val (e:Bool):∀ v:Val,leafL (v.sk e)=cntV v
  | .mk k n t l ns=>by
    have h1:(skR e l.length (valsSk e l)).leaf=cntVs l:=by
      rw[leaf_skR e (fun h=>by rw[List.eq_nil_of_length_eq_zero h];rfl),leaf_vals e l]
    simp[Val.sk,leafL,Sk.leaf,h1,leaf_skS,cntV];omega
theorem leaf_vals (e:Bool):∀ l:List Val,leafL (valsSk e l)=cntVs l
  | []=>by simp[valsSk,leafL,cntVs]
  | v::r=>by simp[valsSk,leafL_app,cntVs,leaf_val e v,leaf_vals e r]
end
theorem sh_split {cs:List Ld}{a b:List Sk} (h:shs cs=a++b):shs (cs.take a.length)=a∧shs (cs.drop a.length)=b:=by
  have hl:cs.length=a.length+b.length:=by rw[← shs_len,h,List.length_append]
  have:shs (cs.take a.length)++shs (cs.drop a.length)=a++b:=by rw[← shs_app,List.take_append_drop,h]
  exact List.append_inj this (by rw[shs_len,List.length_take];omega)
mutual
theorem markLd_mk {e:Bool}:∀ (v:Val) (cs:List Ld) (q:Nat),shs cs=v.sk e→markLd v cs q=mkL cs q
  | .mk k n t l ns,cs,q,h=>by
    obtain⟨X,Y,rest,rfl,h3,h4,h5⟩:=ld_val (e:=e) (k:=k) (n:=n) (t:=t) (l:=l) (ns:=ns) (r:=[]) (by rw[h];simp)
    have:rest=[]:=by cases rest with
      | nil=>rfl
      | cons x r=>simp[shs] at h5
    subst this
    have hX:rowMap (fun cs=>markLds l cs (q+3)) X=X.mk (q+3):=by
      rcases ld_row h3 with ⟨rfl,h0,he⟩ | ⟨b,cs,rfl,h1,he⟩
      · simp[Ld.mk]
      · simp[Ld.mk,markLds_mk l cs (q+3) h1]
    have hl:X.sh.leaf=cntVs l:=by rw[h3,leaf_skR e (fun h=>by rw[List.eq_nil_of_length_eq_zero h];rfl),leaf_vals]
    have hY:=markNm_mk h4 (q+3+cntVs l)
    simp only[markLd,hX,hY,mkL,Ld.mk,mkV,Ld.sh,Sk.leaf,hl]
theorem markLds_mk {e:Bool}:∀ (l:List Val) (cs:List Ld) (q:Nat),shs cs=valsSk e l→markLds l cs q=mkL cs q
  | [],cs,q,h=>by
    have:cs=[]:=by cases cs with
      | nil=>rfl
      | cons x r=>simp[shs,valsSk] at h
    subst this;simp[markLds,mkL]
  | v::r,cs,q,h=>by
    obtain⟨e1,e2⟩:=sh_split (a:=v.sk e) (b:=valsSk e r) (by rw[h];rfl)
    rw[sk_len] at e1 e2
    have a1:=markLd_mk v (cs.take 5) q e1
    have a2:=markLds_mk r (cs.drop 5) (q+cntV v) e2
    simp only[markLds,a1,a2]
    conv=>rhs;rw[← List.take_append_drop 5 cs,mkL_app,e1,leaf_val]
end
theorem marks_values (e:Bool) (l:List Val) (X:Ld) (hX:X.sh=skR e l.length (valsSk e l)):MarksX 148 X:=by
  intro S hi q h1 hq hx ha
  have hl:X.sh.leaf=cntVs l:=by rw[hX,leaf_skR e (fun h=>by rw[List.eq_nil_of_length_eq_zero h];rfl),leaf_vals]
  rw[hl] at hq ⊢
  obtain⟨S',c1,c2⟩:=l_markRow e l X hX S q q rfl h1 hq (fun p hp=>⟨ha.has p (by simpa[varsL] using hp),by have:=ha.rng p (by simpa[varsL] using hp);omega⟩) (by simpa[varsL] using ha.nodup)
  have e2:rowMap (fun cs=>markLds l cs q) X=X.mk q:=by
    rcases ld_row hX with ⟨rfl,h0,he⟩ | ⟨b,cs,rfl,h1,he⟩
    · simp[Ld.mk]
    · simp[Ld.mk,markLds_mk l cs q h1]
  rw[e2] at c2
  exact⟨S',c1,marks_marked c2 ha⟩
theorem p_markTypeS_nil (gl:Nat→Option D) (n:Nat):PCall Tryz.prog gl 195 [typsD [],dI n] (dI n):=by
  refine PCall.by_ (md:=[]) Tryz.func195 rfl (by kernel_rfl) (n:=37) Tryz.ntmps195 (by simp) (by decide) rfl ?_
  simp
  refine LoopT.rounds 1 ?_
  simp[RndT_succ]
theorem ld_typ {e:Bool}{t:ByteArray}{l:List Typ}{b:Bool}{cs:List Ld}{r:List Sk} (h:shs cs=(Typ.mk t l b).sk e++r) :
    ∃ X rest,cs=.d (.string t)::X::.d (.bool b)::rest∧X.sh=skR e l.length (typsSk e l)∧shs rest=r:=by
  match cs,h with
  | c0::X::c2::rest,h =>
    simp only[shs,Typ.sk,List.cons_append,List.nil_append,List.cons.injEq] at h
    obtain⟨h0,h1,h2,h3⟩:=h
    rw[ld_d h0,ld_d h2]
    exact⟨X,rest,rfl,h1,h3⟩
  | [],h=>simp[shs,Typ.sk] at h
  | [_],h=>simp[shs,Typ.sk] at h
  | [_,_],h=>simp[shs,Typ.sk] at h
theorem leaf_typ1 (e:Bool) (v:Typ):1≤leafL (v.sk e):=by
  cases v with
  | mk t l b=>simp[Typ.sk,leafL,Sk.leaf]
theorem leaf_rows {α:Type}{f:α→List Sk} (h:∀ x,1≤leafL (f x)):∀ l:List α,l.length≤leafL (l.flatMap f)
  | []=>Nat.zero_le _
  | x::r=>by
    have:=leaf_rows h r
    have:=h x
    rw[List.flatMap_cons,leafL_app,List.length_cons];omega
theorem typsSk_flat (e:Bool):∀ l:List Typ,typsSk e l=l.flatMap (Typ.sk e)
  | []=>by simp[typsSk]
  | v::r=>by rw[typsSk_cons,typsSk_flat e r,List.flatMap_cons]
set_option maxHeartbeats 4000000 in
theorem l_markTypeS (e:Bool) (l:List Typ) (ih:∀ v∈l,∀ (X:Ld),(match v with | .mk _ lv _=>X.sh=skR e lv.length (typsSk e lv))→MarksX 195 X) (S0:St) (b n:Nat) (cs:List Ld) (hcs:shs cs=typsSk e l) (hq1:1≤n) (hbd:n+leafL (shs cs)≤1073741824) (hat:At S0 0 S0.nx [.row none b l.length cs]) :
    LCall Tryz.prog 195 [.os b 0 l.length, .d (dI n)] S0 (.d (dI ((n+leafL (shs cs):Nat):Int))) (leftS S0 0 ((b,svs (mkL cs n))::varsL (mkL cs n)) []):=by
  have hB:S0.B b=some (svs cs):=hat.has (b,svs cs) (by simp[varsL,Ld.vars])
  have hb:b<S0.nx:=(hat.rng (b,svs cs) (by simp[varsL,Ld.vars])).2
  have hlen:l.length≤leafL (shs cs):=by rw[hcs,typsSk_flat];exact leaf_rows (leaf_typ1 e) l
  refine LCall.byE (md:=[]) (leftS_keeps _ _ _ _) (by simp[SV.lt,ltS]<;>omega) Tryz.func195 rfl (by kernel_rfl) (n:=37) Tryz.ntmps195 (by simp) (by decide) rfl ?_
  simp[hB]
  refine LoopT.round (fun E S=>∃ (i:Nat) (q:Nat) (done:List Ld) (rest:List Ld),(i≤l.length)∧E 0=some (.os b 0 l.length)∧E 1=some (.d (dI q))∧E 5=some (.d (dI i))∧(At S 0 S0.nx [.row none b l.length (done++rest)])∧(done++mkL rest q=mkL cs n)∧(shs rest=typsSk e (l.drop i))∧(q+leafL (shs rest)=n+leafL (shs cs))∧(n≤q)∧(done.length=i*3)∧(ids (done++rest)=ids cs)∧(Old S0 (b::ids cs) [] S)) (upTo 5 l.length) ⟨0,n,[],cs,by simp[hB];exact⟨hat.mono rfl,hcs⟩⟩ ?_
  rintro E S hk ⟨i,q,done,rest,hi,h0,h1,h5,ha,hm,hr,hq,hnq,hdl,hid,ho⟩
  have hn:S.n=37:=by first | (simpa using hk.n)|(have hh:=hk.n;simp[hB] at hh;exact hh)
  have hg:S.gl=S0.gl:=by first | (simpa using hk.gl)|(have hh:=hk.gl;simp[hB] at hh;exact hh)
  have hmd:S.md=[]:=by first | (simpa using hk.md)|(have hh:=hk.md;simp[hB] at hh;exact hh)
  simp[hB,h0,h1,h5,hn,hg,hmd]
  have w:=wrap64 (n:=(i:Int)+1) (by omega) (by omega)
  have hBb:S.B b=some (svs (done++rest)):=ha.has (b,svs (done++rest)) (by simp[varsL,Ld.vars])
  have hnx:S0.nx≤S.nx:=by have:=hk.nx;simp at this;omega
  refine BrT.dec (fun c=>?_) (fun c=>?_)
  · have hi2:i<l.length:=by omega
    rw[List.drop_eq_getElem_cons hi2] at hr
    have ihv:=ih l[i] (List.getElem_mem hi2)
    generalize hv:l[i]=v at hr ihv
    cases v with
    | mk t lv bb =>
    rw[typsSk_cons] at hr
    obtain⟨X,rest,rfl,hX,hr2⟩:=ld_typ hr
    have hMX:=ihv X hX
    have hrX:=rowish_sk hX
    simp only[shs,leafL,Sk.leaf,Ld.sh] at hq
    have hA:(svs done).length=i*3:=by rw[svs_len,hdl]
    have t0:∀ L,List.take (i*3) (svs done++L)=svs done:=fun L=>List.take_left' hA
    have tj:∀ j L,List.take (i*3+j) (svs done++L)=svs done++L.take j:=fun j L=>by rw[← hA,List.take_length_add_append]
    have dj:∀ j L,List.drop (i*3+j) (svs done++L)=L.drop j:=fun j L=>by rw[← hA,List.drop_length_add_append]
    have dj2:∀ j k L,List.drop (i*3+j+k) (svs done++L)=L.drop (j+k):=fun j k L=>by rw[Nat.add_assoc,dj]
    have gj:∀ (j:Nat) (L:List SV),(svs done++L)[i*3+j]?=L[j]?:=fun j L=>by rw[← hA,List.getElem?_append_right (by omega),Nat.add_sub_cancel_left]
    have wq1:=wrap64 (n:=(q:Int)+1) (by omega) (by omega)
    simp[hB,h0,h1,h5,hn,hg,hmd,c,hi2,t0,tj,dj,dj2,gj,wq1,w,hdl,hBb]
    repeat refine⟨DrawT.mk (by kernel_rfl),?_⟩
    refine CallT.p0 (p_markText q (by omega) (by omega)) (by first | rfl | (simp;done)|(simp[hB,h0,h1,h5,hn,hg,hmd,c,hi2,t0,tj,dj,dj2,gj,wq1,w,hdl,hBb];done)) (by first | rfl | (simp;done)|(simp;rfl)|(simp[hB,h0,h1,h5,hn,hg,hmd,c,hi2,t0,tj,dj,dj2,gj,wq1,w,hdl,hBb];done)) ?_
    simp[hB,h0,h1,h5,hn,hg,hmd,c,hi2,t0,tj,dj,dj2,gj,wq1,w,hdl,hBb]
    have a1:∀ S':St,S'.B b=some (svs done++.d (dS (markT q))::X.sv::.d (dB bb)::svs rest)→(∀ x,x<S0.nx→x≠b→S'.B x=S.B x)→At S' 0 S0.nx [.row none b l.length ((done++[.d (.string (markT q))])++X::.d (.bool bb)::rest)]:=fun S' h h'=>ha.put (by simp[varsL_app,varsL,Ld.vars]) (by simpa using h) h'
    refine CallT_ex (mark_part (q:=q+1) _ _ hMX hrX (a1 _ (by simp) (fun x _ hx=>by simp[hx])) ?_ (by omega) (by omega) (by omega)) (fun S2 hw=>?_)
    · first | (simp;done)|(simp;omega)
    obtain⟨hw,a2⟩:=hw
    have hB2:S2.B b=some (svs done++.d (dS (markT q))::X.sv::.d (dB bb)::svs rest):=by
      rw[a2.cells];simp[mk_sv hrX]
    have hn2:S2.n=37:=by rw[hw.n];simpa using hn
    have hx2:S.nx≤S2.nx:=by rw[hw.nx];first | (simp;done)|(simp;omega)
    have ho2:Old S0 (b::ids cs) [] S2:=by
      refine Old.went ?_ hw ?_ (fun x hx=>List.mem_cons_of_mem _ (by rw[← hid];exact (List.append_assoc done [.d (.string t)] (X::.d (.bool bb)::rest))▸ids_part (A:=done++[.d (.string t)]) hx))
      · ((repeat first | rw[old_adv] | rw[old_setIn (by first | (simp;done) | fail)] | rw[old_set (by first | omega | (simp;done)|(simp;omega))] | rw[old_new (by first | omega | (simp;done)|(simp;omega))] | rw[old_tipIn (by first | (simp;done) | fail)] | rw[old_tip (by first | omega | (simp;done)|(simp;omega))] | refine old_left (by first | omega | (simp;done)|(simp;omega)) (by first | omega | (simp;done)|(simp;omega)) (by first | omega | (simp;done)|(simp;omega)) ?_);(first | exact ho | simp))
      · first | (simp;done)|(simp;omega)
    have wq2:=wrap64 (n:=(q:Int)+1+X.sh.leaf+1) (by omega) (by omega)
    have hbb:decide (((q:Int)+1+X.sh.leaf).tmod 3=0)=decide ((q+1+X.sh.leaf) % 3=0):=mark_bool (by omega)
    simp[hB,h0,h1,h5,hn,hg,hmd,c,hi2,t0,tj,dj,dj2,gj,wq1,w,hdl,hBb,hB2,hn2,wq2,hbb]
    have ho:=ho2
    refine⟨by omega,⟨i+1,hi2,q+1+X.sh.leaf+1,by omega,by omega,done++[.d (.string (markT q)),X.mk (q+1), .d (.bool (decide ((q+1+X.sh.leaf) % 3=0)))],rest,?_,?_,hr2,by omega,by omega,by simp[hdl];omega,?_,?_⟩,upTo_lt h5 (by simp) hi2⟩
    · exact a2.put (by simp[varsL_app,varsL,Ld.vars]) (by simp[mk_sv hrX]) (fun x _ hx=>by simp[hx])
    · rw[← hm];simp[mkL,Ld.mk,mkV,Ld.sh,Sk.leaf]
    · rw[← hid];simp[ids,varsL_app,varsL,Ld.vars,mk_ids]
    · ((repeat first | rw[old_adv] | rw[old_setIn (by first | (simp;done) | fail)] | rw[old_set (by first | omega | (simp;done)|(simp;omega))] | rw[old_new (by first | omega | (simp;done)|(simp;omega))] | rw[old_tipIn (by first | (simp;done) | fail)] | rw[old_tip (by first | omega | (simp;done)|(simp;omega))] | refine old_left (by first | omega | (simp;done)|(simp;omega)) (by first | omega | (simp;done)|(simp;omega)) (by first | omega | (simp;done)|(simp;omega)) ?_);(first | exact ho | simp))
  · have hi3:i=l.length:=by omega
    subst hi3
    rw[List.drop_eq_nil_of_le (by omega)] at hr
    have hr0:rest=[]:=by cases rest with
      | nil=>rfl
      | cons x r=>simp[shs,typsSk] at hr
    subst hr0
    simp only[mkL,List.append_nil] at hm ha
    simp only[shs,leafL,Nat.add_zero] at hq
    subst hm
    simp[hB,h0,h1,h5,hn,hg,hmd,c]
    exact⟨by omega,marks_end hat (ha.mono rfl) ho⟩
theorem marks_types (e:Bool):∀ (l:List Typ) (X:Ld),X.sh=skR e l.length (typsSk e l)→MarksX 195 X
  | l,X,hX=>by
    rcases ld_row hX with ⟨rfl,h0,_⟩ | ⟨b,cs,rfl,h1,_⟩
    · exact marks_nil p_markTypeS_nil
    · refine marks_of (fun S0 q hq1 hq2 hat=>l_markTypeS e l (fun v hv X hX=>?_) S0 b q cs h1 hq1 hq2 hat)
      have:=List.sizeOf_lt_of_mem hv
      cases v with
      | mk t lv bb =>
      have:SizeOf.sizeOf lv<SizeOf.sizeOf l:=by
        simp only[Typ.mk.sizeOf_spec] at this
        omega
      exact marks_types e lv X hX
termination_by l=>SizeOf.sizeOf l
theorem p_markArgS_nil (gl:Nat→Option D) (n:Nat):PCall Tryz.prog gl 194 [.ps [] 0,dI n] (dI n):=by
  refine PCall.by_ (md:=[]) Tryz.func194 rfl (by kernel_rfl) (n:=98) Tryz.ntmps194 (by simp) (by decide) rfl ?_
  simp
  refine LoopT.rounds 1 ?_
  simp[RndT_succ]
theorem ld_arg {e:Bool}{name:ByteArray}{t:ByteArray}{tl:List Typ}{tm:Bool}{has:Bool}{ek en:Int}{et:ByteArray}{el:List Val}{ens:List ByteArray}{cs:List Ld}{r:List Sk} (h:shs cs=(Arg.mk name (.mk t tl tm) has (.mk ek en et el ens)).sk e++r) :
    ∃ X Y Z rest,cs=.d (.string name)::.d (.string t)::X::.d (.bool tm)::.d (.bool has)::.d (.int .i64 ek)::.d (.int .i64 en)::.d (.string et)::Y::Z::rest∧X.sh=skR e tl.length (typsSk e tl)∧Y.sh=skR e el.length (valsSk e el)∧Z.sh=skS e ens∧shs rest=r:=by
  match cs,h with
  | c0::c1::c2::c3::c4::c5::c6::c7::c8::c9::rest,h =>
    simp only[shs,Arg.sk,Typ.sk,Val.sk,List.cons_append,List.nil_append,List.cons.injEq] at h
    obtain⟨h0,h1,h2,h3,h4,h5,h6,h7,h8,h9,hz⟩:=h
    rw[ld_d h0,ld_d h1,ld_d h3,ld_d h4,ld_d h5,ld_d h6,ld_d h7]
    exact⟨c2,c8,c9,rest,rfl,h2,h8,h9,hz⟩
  | [],h=>simp[shs,Arg.sk,Typ.sk,Val.sk] at h
  | [_],h=>simp[shs,Arg.sk,Typ.sk,Val.sk] at h
  | [_,_],h=>simp[shs,Arg.sk,Typ.sk,Val.sk] at h
  | [_,_,_],h=>simp[shs,Arg.sk,Typ.sk,Val.sk] at h
  | [_,_,_,_],h=>simp[shs,Arg.sk,Typ.sk,Val.sk] at h
  | [_,_,_,_,_],h=>simp[shs,Arg.sk,Typ.sk,Val.sk] at h
  | [_,_,_,_,_,_],h=>simp[shs,Arg.sk,Typ.sk,Val.sk] at h
  | [_,_,_,_,_,_,_],h=>simp[shs,Arg.sk,Typ.sk,Val.sk] at h
  | [_,_,_,_,_,_,_,_],h=>simp[shs,Arg.sk,Typ.sk,Val.sk] at h
  | [_,_,_,_,_,_,_,_,_],h=>simp[shs,Arg.sk,Typ.sk,Val.sk] at h
theorem leaf_arg1 (e:Bool) (v:Arg):1≤leafL (v.sk e):=by
  unfold Arg.sk;simp only[leafL,Sk.leaf];omega
set_option maxHeartbeats 8000000 in
theorem l_markArgS (e:Bool) (l:List Arg) (S0:St) (b n:Nat) (cs:List Ld) (hcs:shs cs=argsSk e l) (hq1:1≤n) (hbd:n+leafL (shs cs)≤1073741824) (hat:At S0 0 S0.nx [.row none b l.length cs]) :
    LCall Tryz.prog 194 [.os b 0 l.length, .d (dI n)] S0 (.d (dI ((n+leafL (shs cs):Nat):Int))) (leftS S0 0 ((b,svs (mkL cs n))::varsL (mkL cs n)) []):=by
  have hB:S0.B b=some (svs cs):=hat.cells
  have hb:b<S0.nx:=(hat.rng (b,svs cs) (by simp[varsL,Ld.vars])).2
  have hlen:l.length≤leafL (shs cs):=by rw[hcs];exact leaf_rows (leaf_arg1 e) l
  refine LCall.byE (md:=[]) (leftS_keeps _ _ _ _) (by simp[SV.lt,ltS]<;>omega) Tryz.func194 rfl (by kernel_rfl) (n:=98) Tryz.ntmps194 (by simp) (by decide) rfl ?_
  simp[hB]
  refine LoopT.round (fun E S=>∃ (i:Nat) (q:Nat) (done:List Ld) (rest:List Ld),(i≤l.length)∧E 0=some (.os b 0 l.length)∧E 1=some (.d (dI q))∧E 5=some (.d (dI i))∧(At S 0 S0.nx [.row none b l.length (done++rest)])∧(done++mkL rest q=mkL cs n)∧(shs rest=argsSk e (l.drop i))∧(q+leafL (shs rest)=n+leafL (shs cs))∧(n≤q)∧(done.length=i*10)∧(ids (done++rest)=ids cs)∧(Old S0 (b::ids cs) [] S)) (upTo 5 l.length) ⟨0,n,[],cs,by simp[hB];exact⟨hat.mono rfl,hcs⟩⟩ ?_
  rintro E S hk ⟨i,q,done,rest,hi,h0,h1,h5,ha,hm,hr,hq,hnq,hdl,hid,ho⟩
  have hn:S.n=98:=by first | (simpa using hk.n)|(have hh:=hk.n;simp[hB] at hh;exact hh)
  have hg:S.gl=S0.gl:=by first | (simpa using hk.gl)|(have hh:=hk.gl;simp[hB] at hh;exact hh)
  have hmd:S.md=[]:=by first | (simpa using hk.md)|(have hh:=hk.md;simp[hB] at hh;exact hh)
  simp[hB,h0,h1,h5,hn,hg,hmd]
  have w:=wrap64 (n:=(i:Int)+1) (by omega) (by omega)
  have hBb:S.B b=some (svs (done++rest)):=ha.cells
  have hnx:S0.nx≤S.nx:=by have:=hk.nx;simp at this;omega
  refine BrT.dec (fun c=>?_) (fun c=>?_)
  · have hi2:i<l.length:=by omega
    rw[List.drop_eq_getElem_cons hi2] at hr
    generalize hv:l[i]=v at hr
    obtain⟨name,ty,has,els⟩:=v
    cases ty with
    | mk t tl tm =>
    cases els with
    | mk ek en et el ens =>
    rw[argsSk_cons] at hr
    obtain⟨X,Y,Z,rest,rfl,hX,hY,hZ,hr2⟩:=ld_arg hr
    have hMX:=marks_types e tl X hX
    have hrX:=rowish_sk (e:=e) hX
    have hMY:=marks_values e el Y hY
    have hrY:=rowish_sk (e:=e) hY
    have hMZ:=marks_names e ens Z hZ
    have hrZ:=rowish_sk (e:=e) hZ
    simp only[shs,leafL,Sk.leaf,Ld.sh] at hq
    have hA:(svs done).length=i*10:=by rw[svs_len,hdl]
    have t0:∀ L,List.take (i*10) (svs done++L)=svs done:=fun L=>List.take_left' hA
    have tj:∀ j L,List.take (i*10+j) (svs done++L)=svs done++L.take j:=fun j L=>by rw[← hA,List.take_length_add_append]
    have dj:∀ j L,List.drop (i*10+j) (svs done++L)=L.drop j:=fun j L=>by rw[← hA,List.drop_length_add_append]
    have dj2:∀ j k L,List.drop (i*10+j+k) (svs done++L)=L.drop (j+k):=fun j k L=>by rw[Nat.add_assoc,dj]
    have gj:∀ (j:Nat) (L:List SV),(svs done++L)[i*10+j]?=L[j]?:=fun j L=>by rw[← hA,List.getElem?_append_right (by omega),Nat.add_sub_cancel_left]
    have tj2:∀ j k L,List.take (i*10+j+k) (svs done++L)=svs done++L.take (j+k):=fun j k L=>by rw[Nat.add_assoc,tj]
    have dj3:∀ a b c L,List.drop (i*10+a+b+c) (svs done++L)=L.drop (a+b+c):=fun a b c L=>by rw[Nat.add_assoc,Nat.add_assoc,dj,Nat.add_assoc]
    have gj2:∀ (j k:Nat) (L:List SV),(svs done++L)[i*10+j+k]?=L[j+k]?:=fun j k L=>by rw[Nat.add_assoc,gj]
    have wq1:=wrap64 (n:=(q:Int)+1) (by omega) (by omega)
    have wq2:=wrap64 (n:=(q:Int)+1+1) (by omega) (by omega)
    simp[hB,h0,h1,h5,hn,hg,hmd,c,hi2,t0,tj,dj,dj2,gj,tj2,dj3,gj2,w,hdl,hBb,wq1,wq2]
    all_goals (repeat refine⟨by omega,?_⟩)
    repeat refine⟨DrawT.mk (by kernel_rfl),?_⟩
    refine CallT.p0 (p_markText (q) (by omega) (by omega)) (by first | rfl | (simp;done)|(simp[hB,h0,h1,h5,hn,hg,hmd,c,hi2,t0,tj,dj,dj2,gj,tj2,dj3,gj2,w,hdl,hBb,wq1,wq2];done)) (by first | rfl | (simp;done)|(simp;rfl)|(simp[hB,h0,h1,h5,hn,hg,hmd,c,hi2,t0,tj,dj,dj2,gj,tj2,dj3,gj2,w,hdl,hBb,wq1,wq2];done)) ?_
    simp[hB,h0,h1,h5,hn,hg,hmd,c,hi2,t0,tj,dj,dj2,gj,tj2,dj3,gj2,w,hdl,hBb,wq1,wq2]
    all_goals (repeat refine⟨by omega,?_⟩)
    repeat refine⟨DrawT.mk (by kernel_rfl),?_⟩
    refine CallT.p0 (p_markText (q+1) (by omega) (by omega)) (by first | rfl | (simp;done)|(simp[hB,h0,h1,h5,hn,hg,hmd,c,hi2,t0,tj,dj,dj2,gj,tj2,dj3,gj2,w,hdl,hBb,wq1,wq2];done)) (by first | rfl | (simp;done)|(simp;rfl)|(simp[hB,h0,h1,h5,hn,hg,hmd,c,hi2,t0,tj,dj,dj2,gj,tj2,dj3,gj2,w,hdl,hBb,wq1,wq2];done)) ?_
    simp[hB,h0,h1,h5,hn,hg,hmd,c,hi2,t0,tj,dj,dj2,gj,tj2,dj3,gj2,w,hdl,hBb,wq1,wq2]
    all_goals (repeat refine⟨by omega,?_⟩)
    have a1:∀ S':St,S'.B b=some (svs done++.d (dS (markT (q)))::.d (dS (markT (q+1)))::X.sv::.d (dB tm)::.d (dB has)::.d (dI ek)::.d (dI en)::.d (dS et)::Y.sv::Z.sv::svs rest)→(∀ x,x<S0.nx→x≠b→S'.B x=S.B x)→At S' 0 S0.nx [.row none b l.length ((done++[.d (.string (markT (q))), .d (.string (markT (q+1)))])++X::.d (.bool tm)::.d (.bool has)::.d (.int .i64 ek)::.d (.int .i64 en)::.d (.string et)::Y::Z::rest)]:=fun S' h h'=>ha.put (by simp[varsL_app,varsL,Ld.vars]) (by rw[h];simp[mk_sv hrX,mk_sv hrY,mk_sv hrZ]) h'
    refine CallT_ex (mark_part (q:=q+2) (A:=done++[.d (.string (markT (q))), .d (.string (markT (q+1)))]) (R:=.d (.bool tm)::.d (.bool has)::.d (.int .i64 ek)::.d (.int .i64 en)::.d (.string et)::Y::Z::rest) hMX hrX (by simpa using a1 _ (by simp) (fun x _ hx=>by simp[hx])) ?_ (by omega) (by omega) (by omega)) (fun S2 hw1=>?_)
    · first | (simp;done)|(simp;omega)
    obtain⟨hw1,b1⟩:=hw1
    have hB1:S2.B b=some (svs done++.d (dS (markT (q)))::.d (dS (markT (q+1)))::X.sv::.d (dB tm)::.d (dB has)::.d (dI ek)::.d (dI en)::.d (dS et)::Y.sv::Z.sv::svs rest):=by
      rw[b1.cells];simp[mk_sv hrX,mk_sv hrY,mk_sv hrZ]
    have hn1:S2.n=98:=by rw[hw1.n];simpa using hn
    have hx1:S0.nx≤S2.nx:=by rw[hw1.nx];first | (simp;done)|(simp;omega)
    have ho1:Old S0 (b::ids cs) [] S2:=by
      refine Old.went ?_ hw1 ?_ (fun x hx=>List.mem_cons_of_mem _ (by rw[← hid];have:=ids_part (A:=done++[.d (.string name), .d (.string t)]) (R:=.d (.bool tm)::.d (.bool has)::.d (.int .i64 ek)::.d (.int .i64 en)::.d (.string et)::Y::Z::rest) hx;simpa[ids,varsL_app,varsL,Ld.vars,mk_ids] using this))
      · ((repeat first | rw[old_adv] | rw[old_setIn (by first | (simp;done) | fail)] | rw[old_set (by first | omega | (simp;done)|(simp;omega))] | rw[old_new (by first | omega | (simp;done)|(simp;omega))] | rw[old_tipIn (by first | (simp;done) | fail)] | rw[old_tip (by first | omega | (simp;done)|(simp;omega))] | refine old_left (by first | omega | (simp;done)|(simp;omega)) (by first | omega | (simp;done)|(simp;omega)) (by first | omega | (simp;done)|(simp;omega)) ?_);(first | exact ho | simp))
      · first | (simp;done)|(simp;omega)
    have ho:=ho1
    have hbb3:=(mark_bool (by omega):decide (((q:Int)+2+(X.sh.leaf:Int)).tmod 3=0)=decide ((q+2+X.sh.leaf) % 3=0))
    have wq4:=wrap64 (n:=(q:Int)+2+(X.sh.leaf:Int)+1) (by omega) (by omega)
    have hbb5:=(mark_bool (by omega):decide (((q:Int)+2+(X.sh.leaf:Int)+1).tmod 3=0)=decide ((q+2+X.sh.leaf+1) % 3=0))
    have wq6:=wrap64 (n:=(q:Int)+2+(X.sh.leaf:Int)+1+1) (by omega) (by omega)
    have wq7:=wrap64 (n:=(q:Int)+2+(X.sh.leaf:Int)+1+1+1) (by omega) (by omega)
    have wq8:=wrap64 (n:=(q:Int)+2+(X.sh.leaf:Int)+1+1+1+1) (by omega) (by omega)
    have wq9:=wrap64 (n:=(q:Int)+2+(X.sh.leaf:Int)+1+1+1+1+1) (by omega) (by omega)
    simp[hB,h0,h1,h5,hn,hg,hmd,c,hi2,t0,tj,dj,dj2,gj,tj2,dj3,gj2,w,hdl,hBb,wq1,wq2,hB1,hn1,hbb3,wq4,hbb5,wq6,wq7,wq8,wq9]
    all_goals (repeat refine⟨by omega,?_⟩)
    repeat refine⟨DrawT.mk (by kernel_rfl),?_⟩
    refine CallT.p0 (p_markText (q+2+X.sh.leaf+4) (by omega) (by omega)) (by first | rfl | (simp;done)|(simp[hB,h0,h1,h5,hn,hg,hmd,c,hi2,t0,tj,dj,dj2,gj,tj2,dj3,gj2,w,hdl,hBb,wq1,wq2,hB1,hn1,hbb3,wq4,hbb5,wq6,wq7,wq8,wq9];done)) (by first | rfl | (simp;done)|(simp;rfl)|(simp[hB,h0,h1,h5,hn,hg,hmd,c,hi2,t0,tj,dj,dj2,gj,tj2,dj3,gj2,w,hdl,hBb,wq1,wq2,hB1,hn1,hbb3,wq4,hbb5,wq6,wq7,wq8,wq9];done)) ?_
    simp[hB,h0,h1,h5,hn,hg,hmd,c,hi2,t0,tj,dj,dj2,gj,tj2,dj3,gj2,w,hdl,hBb,wq1,wq2,hB1,hn1,hbb3,wq4,hbb5,wq6,wq7,wq8,wq9]
    all_goals (repeat refine⟨by omega,?_⟩)
    have a2:∀ S':St,S'.B b=some (svs done++.d (dS (markT (q)))::.d (dS (markT (q+1)))::X.sv::.d (dB (decide ((q+2+X.sh.leaf) % 3=0)))::.d (dB (decide ((q+2+X.sh.leaf+1) % 3=0)))::.d (dI ((q:Int)+2+(X.sh.leaf:Int)+1+1))::.d (dI ((q:Int)+2+(X.sh.leaf:Int)+1+1+1))::.d (dS (markT (q+2+X.sh.leaf+4)))::Y.sv::Z.sv::svs rest)→(∀ x,x<S0.nx→x≠b→S'.B x=S2.B x)→At S' 0 S0.nx [.row none b l.length ((done++[.d (.string (markT (q))), .d (.string (markT (q+1))),X.mk (q+2), .d (.bool (decide ((q+2+X.sh.leaf) % 3=0))), .d (.bool (decide ((q+2+X.sh.leaf+1) % 3=0))), .d (.int .i64 ((q:Int)+2+(X.sh.leaf:Int)+1+1)), .d (.int .i64 ((q:Int)+2+(X.sh.leaf:Int)+1+1+1)), .d (.string (markT (q+2+X.sh.leaf+4)))])++Y::Z::rest)]:=fun S' h h'=>b1.put (by simp[varsL_app,varsL,Ld.vars]) (by rw[h];simp[mk_sv hrX,mk_sv hrY,mk_sv hrZ]) h'
    refine CallT_ex (mark_part (q:=q+2+X.sh.leaf+5) (A:=done++[.d (.string (markT (q))), .d (.string (markT (q+1))),X.mk (q+2), .d (.bool (decide ((q+2+X.sh.leaf) % 3=0))), .d (.bool (decide ((q+2+X.sh.leaf+1) % 3=0))), .d (.int .i64 ((q:Int)+2+(X.sh.leaf:Int)+1+1)), .d (.int .i64 ((q:Int)+2+(X.sh.leaf:Int)+1+1+1)), .d (.string (markT (q+2+X.sh.leaf+4)))]) (R:=Z::rest) hMY hrY (by simpa using a2 _ (by simp[hB1]) (fun x _ hx=>by simp[hx])) ?_ (by omega) (by omega) (by omega)) (fun S3 hw2=>?_)
    · first | (simp;done)|(simp;omega)
    obtain⟨hw2,b2⟩:=hw2
    have hB2:S3.B b=some (svs done++.d (dS (markT (q)))::.d (dS (markT (q+1)))::X.sv::.d (dB (decide ((q+2+X.sh.leaf) % 3=0)))::.d (dB (decide ((q+2+X.sh.leaf+1) % 3=0)))::.d (dI ((q:Int)+2+(X.sh.leaf:Int)+1+1))::.d (dI ((q:Int)+2+(X.sh.leaf:Int)+1+1+1))::.d (dS (markT (q+2+X.sh.leaf+4)))::Y.sv::Z.sv::svs rest):=by
      rw[b2.cells];simp[mk_sv hrX,mk_sv hrY,mk_sv hrZ]
    have hn2:S3.n=98:=by rw[hw2.n];simpa using hn1
    have hx2:S0.nx≤S3.nx:=by rw[hw2.nx];first | (simp;done)|(simp;omega)
    have ho2:Old S0 (b::ids cs) [] S3:=by
      refine Old.went ?_ hw2 ?_ (fun x hx=>List.mem_cons_of_mem _ (by rw[← hid];have:=ids_part (A:=done++[.d (.string name), .d (.string t),X, .d (.bool tm), .d (.bool has), .d (.int .i64 ek), .d (.int .i64 en), .d (.string et)]) (R:=Z::rest) hx;simpa[ids,varsL_app,varsL,Ld.vars,mk_ids] using this))
      · ((repeat first | rw[old_adv] | rw[old_setIn (by first | (simp;done) | fail)] | rw[old_set (by first | omega | (simp;done)|(simp;omega))] | rw[old_new (by first | omega | (simp;done)|(simp;omega))] | rw[old_tipIn (by first | (simp;done) | fail)] | rw[old_tip (by first | omega | (simp;done)|(simp;omega))] | refine old_left (by first | omega | (simp;done)|(simp;omega)) (by first | omega | (simp;done)|(simp;omega)) (by first | omega | (simp;done)|(simp;omega)) ?_);(first | exact ho | simp))
      · first | (simp;done)|(simp;omega)
    have ho:=ho2
    simp[hB,h0,h1,h5,hn,hg,hmd,c,hi2,t0,tj,dj,dj2,gj,tj2,dj3,gj2,w,hdl,hBb,wq1,wq2,hB1,hn1,hbb3,wq4,hbb5,wq6,wq7,wq8,wq9,hB2,hn2]
    all_goals (repeat refine⟨by omega,?_⟩)
    have a3:∀ S':St,S'.B b=some (svs done++.d (dS (markT (q)))::.d (dS (markT (q+1)))::X.sv::.d (dB (decide ((q+2+X.sh.leaf) % 3=0)))::.d (dB (decide ((q+2+X.sh.leaf+1) % 3=0)))::.d (dI ((q:Int)+2+(X.sh.leaf:Int)+1+1))::.d (dI ((q:Int)+2+(X.sh.leaf:Int)+1+1+1))::.d (dS (markT (q+2+X.sh.leaf+4)))::Y.sv::Z.sv::svs rest)→(∀ x,x<S0.nx→x≠b→S'.B x=S3.B x)→At S' 0 S0.nx [.row none b l.length ((done++[.d (.string (markT (q))), .d (.string (markT (q+1))),X.mk (q+2), .d (.bool (decide ((q+2+X.sh.leaf) % 3=0))), .d (.bool (decide ((q+2+X.sh.leaf+1) % 3=0))), .d (.int .i64 ((q:Int)+2+(X.sh.leaf:Int)+1+1)), .d (.int .i64 ((q:Int)+2+(X.sh.leaf:Int)+1+1+1)), .d (.string (markT (q+2+X.sh.leaf+4))),Y.mk (q+2+X.sh.leaf+5)])++Z::rest)]:=fun S' h h'=>b2.put (by simp[varsL_app,varsL,Ld.vars]) (by rw[h];simp[mk_sv hrX,mk_sv hrY,mk_sv hrZ]) h'
    refine CallT_ex (mark_part (q:=q+2+X.sh.leaf+5+Y.sh.leaf) (A:=done++[.d (.string (markT (q))), .d (.string (markT (q+1))),X.mk (q+2), .d (.bool (decide ((q+2+X.sh.leaf) % 3=0))), .d (.bool (decide ((q+2+X.sh.leaf+1) % 3=0))), .d (.int .i64 ((q:Int)+2+(X.sh.leaf:Int)+1+1)), .d (.int .i64 ((q:Int)+2+(X.sh.leaf:Int)+1+1+1)), .d (.string (markT (q+2+X.sh.leaf+4))),Y.mk (q+2+X.sh.leaf+5)]) (R:=rest) hMZ hrZ (by simpa using a3 _ (by simp[hB2]) (fun x _ hx=>by simp[hx])) ?_ (by omega) (by omega) (by omega)) (fun S4 hw3=>?_)
    · first | (simp;done)|(simp;omega)
    obtain⟨hw3,b3⟩:=hw3
    have hB3:S4.B b=some (svs done++.d (dS (markT (q)))::.d (dS (markT (q+1)))::X.sv::.d (dB (decide ((q+2+X.sh.leaf) % 3=0)))::.d (dB (decide ((q+2+X.sh.leaf+1) % 3=0)))::.d (dI ((q:Int)+2+(X.sh.leaf:Int)+1+1))::.d (dI ((q:Int)+2+(X.sh.leaf:Int)+1+1+1))::.d (dS (markT (q+2+X.sh.leaf+4)))::Y.sv::Z.sv::svs rest):=by
      rw[b3.cells];simp[mk_sv hrX,mk_sv hrY,mk_sv hrZ]
    have hn3:S4.n=98:=by rw[hw3.n];simpa using hn2
    have hx3:S0.nx≤S4.nx:=by rw[hw3.nx];first | (simp;done)|(simp;omega)
    have ho3:Old S0 (b::ids cs) [] S4:=by
      refine Old.went ?_ hw3 ?_ (fun x hx=>List.mem_cons_of_mem _ (by rw[← hid];have:=ids_part (A:=done++[.d (.string name), .d (.string t),X, .d (.bool tm), .d (.bool has), .d (.int .i64 ek), .d (.int .i64 en), .d (.string et),Y]) (R:=rest) hx;simpa[ids,varsL_app,varsL,Ld.vars,mk_ids] using this))
      · ((repeat first | rw[old_adv] | rw[old_setIn (by first | (simp;done) | fail)] | rw[old_set (by first | omega | (simp;done)|(simp;omega))] | rw[old_new (by first | omega | (simp;done)|(simp;omega))] | rw[old_tipIn (by first | (simp;done) | fail)] | rw[old_tip (by first | omega | (simp;done)|(simp;omega))] | refine old_left (by first | omega | (simp;done)|(simp;omega)) (by first | omega | (simp;done)|(simp;omega)) (by first | omega | (simp;done)|(simp;omega)) ?_);(first | exact ho | simp))
      · first | (simp;done)|(simp;omega)
    have ho:=ho3
    simp[hB,h0,h1,h5,hn,hg,hmd,c,hi2,t0,tj,dj,dj2,gj,tj2,dj3,gj2,w,hdl,hBb,wq1,wq2,hB1,hn1,hbb3,wq4,hbb5,wq6,wq7,wq8,wq9,hB2,hn2,hB3,hn3]
    all_goals (repeat refine⟨by omega,?_⟩)
    refine⟨⟨i+1,hi2,q+2+X.sh.leaf+5+Y.sh.leaf+Z.sh.leaf,?_,by omega,done++[.d (.string (markT (q))), .d (.string (markT (q+1))),X.mk (q+2), .d (.bool (decide ((q+2+X.sh.leaf) % 3=0))), .d (.bool (decide ((q+2+X.sh.leaf+1) % 3=0))), .d (.int .i64 ((q:Int)+2+(X.sh.leaf:Int)+1+1)), .d (.int .i64 ((q:Int)+2+(X.sh.leaf:Int)+1+1+1)), .d (.string (markT (q+2+X.sh.leaf+4))),Y.mk (q+2+X.sh.leaf+5),Z.mk (q+2+X.sh.leaf+5+Y.sh.leaf)],rest,?_,?_,hr2,by omega,by omega,by simp[hdl];omega,?_,?_⟩,upTo_lt h5 (by simp) hi2⟩
    · first | omega | (simp;done)|(simp;omega)
    · exact b3.put (by simp[varsL_app,varsL,Ld.vars]) (by simp[mk_sv hrX,mk_sv hrY,mk_sv hrZ,hB3]) (fun x _ hx=>by simp[hx])
    · rw[← hm];simp[mkL,Ld.mk,mkV,Ld.sh,Sk.leaf]<;>omega
    · rw[← hid];simp[ids,varsL_app,varsL,Ld.vars,mk_ids]
    · ((repeat first | rw[old_adv] | rw[old_setIn (by first | (simp;done) | fail)] | rw[old_set (by first | omega | (simp;done)|(simp;omega))] | rw[old_new (by first | omega | (simp;done)|(simp;omega))] | rw[old_tipIn (by first | (simp;done) | fail)] | rw[old_tip (by first | omega | (simp;done)|(simp;omega))] | refine old_left (by first | omega | (simp;done)|(simp;omega)) (by first | omega | (simp;done)|(simp;omega)) (by first | omega | (simp;done)|(simp;omega)) ?_);(first | exact ho | simp))
  · have hi3:i=l.length:=by omega
    subst hi3
    rw[List.drop_eq_nil_of_le (by omega)] at hr
    have hr0:rest=[]:=by cases rest with
      | nil=>rfl
      | cons x r=>simp[shs,argsSk] at hr
    subst hr0
    simp only[mkL,List.append_nil] at hm ha
    simp only[shs,leafL,Nat.add_zero] at hq
    subst hm
    simp[hB,h0,h1,h5,hn,hg,hmd,c]
    exact⟨by omega,marks_end hat (ha.mono rfl) ho⟩
theorem marks_arg (e:Bool) (l:List Arg) (X:Ld) (hX:X.sh=skR e l.length (argsSk e l)):MarksX 194 X:=by
  rcases ld_row hX with ⟨rfl,h0,_⟩ | ⟨b,cs,rfl,h1,_⟩
  · exact marks_nil p_markArgS_nil
  · exact marks_of (fun S0 q hq1 hq2 hat=>l_markArgS e l S0 b q cs h1 hq1 hq2 hat)
theorem p_markFieldS_nil (gl:Nat→Option D) (n:Nat):PCall Tryz.prog gl 104 [.ps [] 0,dI n] (dI n):=by
  refine PCall.by_ (md:=[]) Tryz.func104 rfl (by kernel_rfl) (n:=55) Tryz.ntmps104 (by simp) (by decide) rfl ?_
  simp
  refine LoopT.rounds 1 ?_
  simp[RndT_succ]
theorem ld_fld {e:Bool}{name:ByteArray}{args:List Arg}{t:ByteArray}{tl:List Typ}{tm:Bool}{cs:List Ld}{r:List Sk} (h:shs cs=(Fld.mk name args (.mk t tl tm)).sk e++r) :
    ∃ X Y rest,cs=.d (.string name)::X::.d (.string t)::Y::.d (.bool tm)::rest∧X.sh=skR e args.length (argsSk e args)∧Y.sh=skR e tl.length (typsSk e tl)∧shs rest=r:=by
  match cs,h with
  | c0::c1::c2::c3::c4::rest,h =>
    simp only[shs,Fld.sk,Typ.sk,List.cons_append,List.nil_append,List.cons.injEq] at h
    obtain⟨h0,h1,h2,h3,h4,hz⟩:=h
    rw[ld_d h0,ld_d h2,ld_d h4]
    exact⟨c1,c3,rest,rfl,h1,h3,hz⟩
  | [],h=>simp[shs,Fld.sk,Typ.sk] at h
  | [_],h=>simp[shs,Fld.sk,Typ.sk] at h
  | [_,_],h=>simp[shs,Fld.sk,Typ.sk] at h
  | [_,_,_],h=>simp[shs,Fld.sk,Typ.sk] at h
  | [_,_,_,_],h=>simp[shs,Fld.sk,Typ.sk] at h
theorem leaf_fld1 (e:Bool) (v:Fld):1≤leafL (v.sk e):=by
  unfold Fld.sk;simp only[leafL,Sk.leaf];omega
set_option maxHeartbeats 8000000 in
theorem l_markFieldS (e:Bool) (l:List Fld) (S0:St) (b n:Nat) (cs:List Ld) (hcs:shs cs=fldsSk e l) (hq1:1≤n) (hbd:n+leafL (shs cs)≤1073741824) (hat:At S0 0 S0.nx [.row none b l.length cs]) :
    LCall Tryz.prog 104 [.os b 0 l.length, .d (dI n)] S0 (.d (dI ((n+leafL (shs cs):Nat):Int))) (leftS S0 0 ((b,svs (mkL cs n))::varsL (mkL cs n)) []):=by
  have hB:S0.B b=some (svs cs):=hat.cells
  have hb:b<S0.nx:=(hat.rng (b,svs cs) (by simp[varsL,Ld.vars])).2
  have hlen:l.length≤leafL (shs cs):=by rw[hcs];exact leaf_rows (leaf_fld1 e) l
  refine LCall.byE (md:=[]) (leftS_keeps _ _ _ _) (by simp[SV.lt,ltS]<;>omega) Tryz.func104 rfl (by kernel_rfl) (n:=55) Tryz.ntmps104 (by simp) (by decide) rfl ?_
  simp[hB]
  refine LoopT.round (fun E S=>∃ (i:Nat) (q:Nat) (done:List Ld) (rest:List Ld),(i≤l.length)∧E 0=some (.os b 0 l.length)∧E 1=some (.d (dI q))∧E 5=some (.d (dI i))∧(At S 0 S0.nx [.row none b l.length (done++rest)])∧(done++mkL rest q=mkL cs n)∧(shs rest=fldsSk e (l.drop i))∧(q+leafL (shs rest)=n+leafL (shs cs))∧(n≤q)∧(done.length=i*5)∧(ids (done++rest)=ids cs)∧(Old S0 (b::ids cs) [] S)) (upTo 5 l.length) ⟨0,n,[],cs,by simp[hB];exact⟨hat.mono rfl,hcs⟩⟩ ?_
  rintro E S hk ⟨i,q,done,rest,hi,h0,h1,h5,ha,hm,hr,hq,hnq,hdl,hid,ho⟩
  have hn:S.n=55:=by first | (simpa using hk.n)|(have hh:=hk.n;simp[hB] at hh;exact hh)
  have hg:S.gl=S0.gl:=by first | (simpa using hk.gl)|(have hh:=hk.gl;simp[hB] at hh;exact hh)
  have hmd:S.md=[]:=by first | (simpa using hk.md)|(have hh:=hk.md;simp[hB] at hh;exact hh)
  simp[hB,h0,h1,h5,hn,hg,hmd]
  have w:=wrap64 (n:=(i:Int)+1) (by omega) (by omega)
  have hBb:S.B b=some (svs (done++rest)):=ha.cells
  have hnx:S0.nx≤S.nx:=by have:=hk.nx;simp at this;omega
  refine BrT.dec (fun c=>?_) (fun c=>?_)
  · have hi2:i<l.length:=by omega
    rw[List.drop_eq_getElem_cons hi2] at hr
    generalize hv:l[i]=v at hr
    obtain⟨name,args,ty⟩:=v
    cases ty with
    | mk t tl tm =>
    rw[fldsSk_cons] at hr
    obtain⟨X,Y,rest,rfl,hX,hY,hr2⟩:=ld_fld hr
    have hMX:=marks_arg e args X hX
    have hrX:=rowish_sk (e:=e) hX
    have hMY:=marks_types e tl Y hY
    have hrY:=rowish_sk (e:=e) hY
    simp only[shs,leafL,Sk.leaf,Ld.sh] at hq
    have hA:(svs done).length=i*5:=by rw[svs_len,hdl]
    have t0:∀ L,List.take (i*5) (svs done++L)=svs done:=fun L=>List.take_left' hA
    have tj:∀ j L,List.take (i*5+j) (svs done++L)=svs done++L.take j:=fun j L=>by rw[← hA,List.take_length_add_append]
    have dj:∀ j L,List.drop (i*5+j) (svs done++L)=L.drop j:=fun j L=>by rw[← hA,List.drop_length_add_append]
    have dj2:∀ j k L,List.drop (i*5+j+k) (svs done++L)=L.drop (j+k):=fun j k L=>by rw[Nat.add_assoc,dj]
    have gj:∀ (j:Nat) (L:List SV),(svs done++L)[i*5+j]?=L[j]?:=fun j L=>by rw[← hA,List.getElem?_append_right (by omega),Nat.add_sub_cancel_left]
    have tj2:∀ j k L,List.take (i*5+j+k) (svs done++L)=svs done++L.take (j+k):=fun j k L=>by rw[Nat.add_assoc,tj]
    have dj3:∀ a b c L,List.drop (i*5+a+b+c) (svs done++L)=L.drop (a+b+c):=fun a b c L=>by rw[Nat.add_assoc,Nat.add_assoc,dj,Nat.add_assoc]
    have gj2:∀ (j k:Nat) (L:List SV),(svs done++L)[i*5+j+k]?=L[j+k]?:=fun j k L=>by rw[Nat.add_assoc,gj]
    have wq1:=wrap64 (n:=(q:Int)+1) (by omega) (by omega)
    simp[hB,h0,h1,h5,hn,hg,hmd,c,hi2,t0,tj,dj,dj2,gj,tj2,dj3,gj2,w,hdl,hBb,wq1]
    all_goals (repeat refine⟨by omega,?_⟩)
    repeat refine⟨DrawT.mk (by kernel_rfl),?_⟩
    refine CallT.p0 (p_markText (q) (by omega) (by omega)) (by first | rfl | (simp;done)|(simp[hB,h0,h1,h5,hn,hg,hmd,c,hi2,t0,tj,dj,dj2,gj,tj2,dj3,gj2,w,hdl,hBb,wq1];done)) (by first | rfl | (simp;done)|(simp;rfl)|(simp[hB,h0,h1,h5,hn,hg,hmd,c,hi2,t0,tj,dj,dj2,gj,tj2,dj3,gj2,w,hdl,hBb,wq1];done)) ?_
    simp[hB,h0,h1,h5,hn,hg,hmd,c,hi2,t0,tj,dj,dj2,gj,tj2,dj3,gj2,w,hdl,hBb,wq1]
    all_goals (repeat refine⟨by omega,?_⟩)
    have a1:∀ S':St,S'.B b=some (svs done++.d (dS (markT (q)))::X.sv::.d (dS t)::Y.sv::.d (dB tm)::svs rest)→(∀ x,x<S0.nx→x≠b→S'.B x=S.B x)→At S' 0 S0.nx [.row none b l.length ((done++[.d (.string (markT (q)))])++X::.d (.string t)::Y::.d (.bool tm)::rest)]:=fun S' h h'=>ha.put (by simp[varsL_app,varsL,Ld.vars]) (by rw[h];simp[mk_sv hrX,mk_sv hrY]) h'
    refine CallT_ex (mark_part (q:=q+1) (A:=done++[.d (.string (markT (q)))]) (R:=.d (.string t)::Y::.d (.bool tm)::rest) hMX hrX (by simpa using a1 _ (by simp) (fun x _ hx=>by simp[hx])) ?_ (by omega) (by omega) (by omega)) (fun S2 hw1=>?_)
    · first | (simp;done)|(simp;omega)
    obtain⟨hw1,b1⟩:=hw1
    have hB1:S2.B b=some (svs done++.d (dS (markT (q)))::X.sv::.d (dS t)::Y.sv::.d (dB tm)::svs rest):=by
      rw[b1.cells];simp[mk_sv hrX,mk_sv hrY]
    have hn1:S2.n=55:=by rw[hw1.n];simpa using hn
    have hx1:S0.nx≤S2.nx:=by rw[hw1.nx];first | (simp;done)|(simp;omega)
    have ho1:Old S0 (b::ids cs) [] S2:=by
      refine Old.went ?_ hw1 ?_ (fun x hx=>List.mem_cons_of_mem _ (by rw[← hid];have:=ids_part (A:=done++[.d (.string name)]) (R:=.d (.string t)::Y::.d (.bool tm)::rest) hx;simpa[ids,varsL_app,varsL,Ld.vars,mk_ids] using this))
      · ((repeat first | rw[old_adv] | rw[old_setIn (by first | (simp;done) | fail)] | rw[old_set (by first | omega | (simp;done)|(simp;omega))] | rw[old_new (by first | omega | (simp;done)|(simp;omega))] | rw[old_tipIn (by first | (simp;done) | fail)] | rw[old_tip (by first | omega | (simp;done)|(simp;omega))] | refine old_left (by first | omega | (simp;done)|(simp;omega)) (by first | omega | (simp;done)|(simp;omega)) (by first | omega | (simp;done)|(simp;omega)) ?_);(first | exact ho | simp))
      · first | (simp;done)|(simp;omega)
    have ho:=ho1
    have wq2:=wrap64 (n:=(q:Int)+1+(X.sh.leaf:Int)+1) (by omega) (by omega)
    simp[hB,h0,h1,h5,hn,hg,hmd,c,hi2,t0,tj,dj,dj2,gj,tj2,dj3,gj2,w,hdl,hBb,wq1,hB1,hn1,wq2]
    all_goals (repeat refine⟨by omega,?_⟩)
    repeat refine⟨DrawT.mk (by kernel_rfl),?_⟩
    refine CallT.p0 (p_markText (q+1+X.sh.leaf) (by omega) (by omega)) (by first | rfl | (simp;done)|(simp[hB,h0,h1,h5,hn,hg,hmd,c,hi2,t0,tj,dj,dj2,gj,tj2,dj3,gj2,w,hdl,hBb,wq1,hB1,hn1,wq2];done)) (by first | rfl | (simp;done)|(simp;rfl)|(simp[hB,h0,h1,h5,hn,hg,hmd,c,hi2,t0,tj,dj,dj2,gj,tj2,dj3,gj2,w,hdl,hBb,wq1,hB1,hn1,wq2];done)) ?_
    simp[hB,h0,h1,h5,hn,hg,hmd,c,hi2,t0,tj,dj,dj2,gj,tj2,dj3,gj2,w,hdl,hBb,wq1,hB1,hn1,wq2]
    all_goals (repeat refine⟨by omega,?_⟩)
    have a2:∀ S':St,S'.B b=some (svs done++.d (dS (markT (q)))::X.sv::.d (dS (markT (q+1+X.sh.leaf)))::Y.sv::.d (dB tm)::svs rest)→(∀ x,x<S0.nx→x≠b→S'.B x=S2.B x)→At S' 0 S0.nx [.row none b l.length ((done++[.d (.string (markT (q))),X.mk (q+1), .d (.string (markT (q+1+X.sh.leaf)))])++Y::.d (.bool tm)::rest)]:=fun S' h h'=>b1.put (by simp[varsL_app,varsL,Ld.vars]) (by rw[h];simp[mk_sv hrX,mk_sv hrY]) h'
    refine CallT_ex (mark_part (q:=q+1+X.sh.leaf+1) (A:=done++[.d (.string (markT (q))),X.mk (q+1), .d (.string (markT (q+1+X.sh.leaf)))]) (R:=.d (.bool tm)::rest) hMY hrY (by simpa using a2 _ (by simp[hB1]) (fun x _ hx=>by simp[hx])) ?_ (by omega) (by omega) (by omega)) (fun S3 hw2=>?_)
    · first | (simp;done)|(simp;omega)
    obtain⟨hw2,b2⟩:=hw2
    have hB2:S3.B b=some (svs done++.d (dS (markT (q)))::X.sv::.d (dS (markT (q+1+X.sh.leaf)))::Y.sv::.d (dB tm)::svs rest):=by
      rw[b2.cells];simp[mk_sv hrX,mk_sv hrY]
    have hn2:S3.n=55:=by rw[hw2.n];simpa using hn1
    have hx2:S0.nx≤S3.nx:=by rw[hw2.nx];first | (simp;done)|(simp;omega)
    have ho2:Old S0 (b::ids cs) [] S3:=by
      refine Old.went ?_ hw2 ?_ (fun x hx=>List.mem_cons_of_mem _ (by rw[← hid];have:=ids_part (A:=done++[.d (.string name),X, .d (.string t)]) (R:=.d (.bool tm)::rest) hx;simpa[ids,varsL_app,varsL,Ld.vars,mk_ids] using this))
      · ((repeat first | rw[old_adv] | rw[old_setIn (by first | (simp;done) | fail)] | rw[old_set (by first | omega | (simp;done)|(simp;omega))] | rw[old_new (by first | omega | (simp;done)|(simp;omega))] | rw[old_tipIn (by first | (simp;done) | fail)] | rw[old_tip (by first | omega | (simp;done)|(simp;omega))] | refine old_left (by first | omega | (simp;done)|(simp;omega)) (by first | omega | (simp;done)|(simp;omega)) (by first | omega | (simp;done)|(simp;omega)) ?_);(first | exact ho | simp))
      · first | (simp;done)|(simp;omega)
    have ho:=ho2
    have hbb3:=(mark_bool (by omega):decide (((q:Int)+1+(X.sh.leaf:Int)+1+(Y.sh.leaf:Int)).tmod 3=0)=decide ((q+1+X.sh.leaf+1+Y.sh.leaf) % 3=0))
    have wq4:=wrap64 (n:=(q:Int)+1+(X.sh.leaf:Int)+1+(Y.sh.leaf:Int)+1) (by omega) (by omega)
    simp[hB,h0,h1,h5,hn,hg,hmd,c,hi2,t0,tj,dj,dj2,gj,tj2,dj3,gj2,w,hdl,hBb,wq1,hB1,hn1,wq2,hB2,hn2,hbb3,wq4]
    all_goals (repeat refine⟨by omega,?_⟩)
    refine⟨⟨i+1,hi2,q+1+X.sh.leaf+1+Y.sh.leaf+1,?_,by omega,done++[.d (.string (markT (q))),X.mk (q+1), .d (.string (markT (q+1+X.sh.leaf))),Y.mk (q+1+X.sh.leaf+1), .d (.bool (decide ((q+1+X.sh.leaf+1+Y.sh.leaf) % 3=0)))],rest,?_,?_,hr2,by omega,by omega,by simp[hdl];omega,?_,?_⟩,upTo_lt h5 (by simp) hi2⟩
    · first | omega | (simp;done)|(simp;omega)
    · exact b2.put (by simp[varsL_app,varsL,Ld.vars]) (by simp[mk_sv hrX,mk_sv hrY,hB2]) (fun x _ hx=>by simp[hx])
    · rw[← hm];simp[mkL,Ld.mk,mkV,Ld.sh,Sk.leaf]<;>omega
    · rw[← hid];simp[ids,varsL_app,varsL,Ld.vars,mk_ids]
    · ((repeat first | rw[old_adv] | rw[old_setIn (by first | (simp;done) | fail)] | rw[old_set (by first | omega | (simp;done)|(simp;omega))] | rw[old_new (by first | omega | (simp;done)|(simp;omega))] | rw[old_tipIn (by first | (simp;done) | fail)] | rw[old_tip (by first | omega | (simp;done)|(simp;omega))] | refine old_left (by first | omega | (simp;done)|(simp;omega)) (by first | omega | (simp;done)|(simp;omega)) (by first | omega | (simp;done)|(simp;omega)) ?_);(first | exact ho | simp))
  · have hi3:i=l.length:=by omega
    subst hi3
    rw[List.drop_eq_nil_of_le (by omega)] at hr
    have hr0:rest=[]:=by cases rest with
      | nil=>rfl
      | cons x r=>simp[shs,fldsSk] at hr
    subst hr0
    simp only[mkL,List.append_nil] at hm ha
    simp only[shs,leafL,Nat.add_zero] at hq
    subst hm
    simp[hB,h0,h1,h5,hn,hg,hmd,c]
    exact⟨by omega,marks_end hat (ha.mono rfl) ho⟩
theorem marks_fld (e:Bool) (l:List Fld) (X:Ld) (hX:X.sh=skR e l.length (fldsSk e l)):MarksX 104 X:=by
  rcases ld_row hX with ⟨rfl,h0,_⟩ | ⟨b,cs,rfl,h1,_⟩
  · exact marks_nil p_markFieldS_nil
  · exact marks_of (fun S0 q hq1 hq2 hat=>l_markFieldS e l S0 b q cs h1 hq1 hq2 hat)
theorem p_markDefS_nil (gl:Nat→Option D) (n:Nat):PCall Tryz.prog gl 33 [.ps [] 0,dI n] (dI n):=by
  refine PCall.by_ (md:=[]) Tryz.func33 rfl (by kernel_rfl) (n:=42) Tryz.ntmps33 (by simp) (by decide) rfl ?_
  simp
  refine LoopT.rounds 1 ?_
  simp[RndT_succ]
theorem ld_def {e:Bool}{name:ByteArray}{kind:Int}{flds:List Fld}{words:List ByteArray}{cs:List Ld}{r:List Sk} (h:shs cs=(Def.mk name kind flds words).sk e++r) :
    ∃ X Y rest,cs=.d (.string name)::.d (.int .i64 kind)::X::Y::rest∧X.sh=skR e flds.length (fldsSk e flds)∧Y.sh=skS e words∧shs rest=r:=by
  match cs,h with
  | c0::c1::c2::c3::rest,h =>
    simp only[shs,Def.sk,List.cons_append,List.nil_append,List.cons.injEq] at h
    obtain⟨h0,h1,h2,h3,hz⟩:=h
    rw[ld_d h0,ld_d h1]
    exact⟨c2,c3,rest,rfl,h2,h3,hz⟩
  | [],h=>simp[shs,Def.sk] at h
  | [_],h=>simp[shs,Def.sk] at h
  | [_,_],h=>simp[shs,Def.sk] at h
  | [_,_,_],h=>simp[shs,Def.sk] at h
theorem leaf_def1 (e:Bool) (v:Def):1≤leafL (v.sk e):=by
  unfold Def.sk;simp only[leafL,Sk.leaf];omega
set_option maxHeartbeats 8000000 in
theorem l_markDefS (e:Bool) (l:List Def) (S0:St) (b n:Nat) (cs:List Ld) (hcs:shs cs=defsSk e l) (hq1:1≤n) (hbd:n+leafL (shs cs)≤1073741824) (hat:At S0 0 S0.nx [.row none b l.length cs]) :
    LCall Tryz.prog 33 [.os b 0 l.length, .d (dI n)] S0 (.d (dI ((n+leafL (shs cs):Nat):Int))) (leftS S0 0 ((b,svs (mkL cs n))::varsL (mkL cs n)) []):=by
  have hB:S0.B b=some (svs cs):=hat.cells
  have hb:b<S0.nx:=(hat.rng (b,svs cs) (by simp[varsL,Ld.vars])).2
  have hlen:l.length≤leafL (shs cs):=by rw[hcs];exact leaf_rows (leaf_def1 e) l
  refine LCall.byE (md:=[]) (leftS_keeps _ _ _ _) (by simp[SV.lt,ltS]<;>omega) Tryz.func33 rfl (by kernel_rfl) (n:=42) Tryz.ntmps33 (by simp) (by decide) rfl ?_
  simp[hB]
  refine LoopT.round (fun E S=>∃ (i:Nat) (q:Nat) (done:List Ld) (rest:List Ld),(i≤l.length)∧E 0=some (.os b 0 l.length)∧E 1=some (.d (dI q))∧E 5=some (.d (dI i))∧(At S 0 S0.nx [.row none b l.length (done++rest)])∧(done++mkL rest q=mkL cs n)∧(shs rest=defsSk e (l.drop i))∧(q+leafL (shs rest)=n+leafL (shs cs))∧(n≤q)∧(done.length=i*4)∧(ids (done++rest)=ids cs)∧(Old S0 (b::ids cs) [] S)) (upTo 5 l.length) ⟨0,n,[],cs,by simp[hB];exact⟨hat.mono rfl,hcs⟩⟩ ?_
  rintro E S hk ⟨i,q,done,rest,hi,h0,h1,h5,ha,hm,hr,hq,hnq,hdl,hid,ho⟩
  have hn:S.n=42:=by first | (simpa using hk.n)|(have hh:=hk.n;simp[hB] at hh;exact hh)
  have hg:S.gl=S0.gl:=by first | (simpa using hk.gl)|(have hh:=hk.gl;simp[hB] at hh;exact hh)
  have hmd:S.md=[]:=by first | (simpa using hk.md)|(have hh:=hk.md;simp[hB] at hh;exact hh)
  simp[hB,h0,h1,h5,hn,hg,hmd]
  have w:=wrap64 (n:=(i:Int)+1) (by omega) (by omega)
  have hBb:S.B b=some (svs (done++rest)):=ha.cells
  have hnx:S0.nx≤S.nx:=by have:=hk.nx;simp at this;omega
  refine BrT.dec (fun c=>?_) (fun c=>?_)
  · have hi2:i<l.length:=by omega
    rw[List.drop_eq_getElem_cons hi2] at hr
    generalize hv:l[i]=v at hr
    obtain⟨name,kind,flds,words⟩:=v
    rw[defsSk_cons] at hr
    obtain⟨X,Y,rest,rfl,hX,hY,hr2⟩:=ld_def hr
    have hMX:=marks_fld e flds X hX
    have hrX:=rowish_sk (e:=e) hX
    have hMY:=marks_names e words Y hY
    have hrY:=rowish_sk (e:=e) hY
    simp only[shs,leafL,Sk.leaf,Ld.sh] at hq
    have hA:(svs done).length=i*4:=by rw[svs_len,hdl]
    have t0:∀ L,List.take (i*4) (svs done++L)=svs done:=fun L=>List.take_left' hA
    have tj:∀ j L,List.take (i*4+j) (svs done++L)=svs done++L.take j:=fun j L=>by rw[← hA,List.take_length_add_append]
    have dj:∀ j L,List.drop (i*4+j) (svs done++L)=L.drop j:=fun j L=>by rw[← hA,List.drop_length_add_append]
    have dj2:∀ j k L,List.drop (i*4+j+k) (svs done++L)=L.drop (j+k):=fun j k L=>by rw[Nat.add_assoc,dj]
    have gj:∀ (j:Nat) (L:List SV),(svs done++L)[i*4+j]?=L[j]?:=fun j L=>by rw[← hA,List.getElem?_append_right (by omega),Nat.add_sub_cancel_left]
    have tj2:∀ j k L,List.take (i*4+j+k) (svs done++L)=svs done++L.take (j+k):=fun j k L=>by rw[Nat.add_assoc,tj]
    have dj3:∀ a b c L,List.drop (i*4+a+b+c) (svs done++L)=L.drop (a+b+c):=fun a b c L=>by rw[Nat.add_assoc,Nat.add_assoc,dj,Nat.add_assoc]
    have gj2:∀ (j k:Nat) (L:List SV),(svs done++L)[i*4+j+k]?=L[j+k]?:=fun j k L=>by rw[Nat.add_assoc,gj]
    have wq1:=wrap64 (n:=(q:Int)+1) (by omega) (by omega)
    have wq2:=wrap64 (n:=(q:Int)+1+1) (by omega) (by omega)
    simp[hB,h0,h1,h5,hn,hg,hmd,c,hi2,t0,tj,dj,dj2,gj,tj2,dj3,gj2,w,hdl,hBb,wq1,wq2]
    all_goals (repeat refine⟨by omega,?_⟩)
    repeat refine⟨DrawT.mk (by kernel_rfl),?_⟩
    refine CallT.p0 (p_markText (q) (by omega) (by omega)) (by first | rfl | (simp;done)|(simp[hB,h0,h1,h5,hn,hg,hmd,c,hi2,t0,tj,dj,dj2,gj,tj2,dj3,gj2,w,hdl,hBb,wq1,wq2];done)) (by first | rfl | (simp;done)|(simp;rfl)|(simp[hB,h0,h1,h5,hn,hg,hmd,c,hi2,t0,tj,dj,dj2,gj,tj2,dj3,gj2,w,hdl,hBb,wq1,wq2];done)) ?_
    simp[hB,h0,h1,h5,hn,hg,hmd,c,hi2,t0,tj,dj,dj2,gj,tj2,dj3,gj2,w,hdl,hBb,wq1,wq2]
    all_goals (repeat refine⟨by omega,?_⟩)
    have a1:∀ S':St,S'.B b=some (svs done++.d (dS (markT (q)))::.d (dI ((q:Int)+1))::X.sv::Y.sv::svs rest)→(∀ x,x<S0.nx→x≠b→S'.B x=S.B x)→At S' 0 S0.nx [.row none b l.length ((done++[.d (.string (markT (q))), .d (.int .i64 ((q:Int)+1))])++X::Y::rest)]:=fun S' h h'=>ha.put (by simp[varsL_app,varsL,Ld.vars]) (by rw[h];simp[mk_sv hrX,mk_sv hrY]) h'
    refine CallT_ex (mark_part (q:=q+2) (A:=done++[.d (.string (markT (q))), .d (.int .i64 ((q:Int)+1))]) (R:=Y::rest) hMX hrX (by simpa using a1 _ (by simp) (fun x _ hx=>by simp[hx])) ?_ (by omega) (by omega) (by omega)) (fun S2 hw1=>?_)
    · first | (simp;done)|(simp;omega)
    obtain⟨hw1,b1⟩:=hw1
    have hB1:S2.B b=some (svs done++.d (dS (markT (q)))::.d (dI ((q:Int)+1))::X.sv::Y.sv::svs rest):=by
      rw[b1.cells];simp[mk_sv hrX,mk_sv hrY]
    have hn1:S2.n=42:=by rw[hw1.n];simpa using hn
    have hx1:S0.nx≤S2.nx:=by rw[hw1.nx];first | (simp;done)|(simp;omega)
    have ho1:Old S0 (b::ids cs) [] S2:=by
      refine Old.went ?_ hw1 ?_ (fun x hx=>List.mem_cons_of_mem _ (by rw[← hid];have:=ids_part (A:=done++[.d (.string name), .d (.int .i64 kind)]) (R:=Y::rest) hx;simpa[ids,varsL_app,varsL,Ld.vars,mk_ids] using this))
      · ((repeat first | rw[old_adv] | rw[old_setIn (by first | (simp;done) | fail)] | rw[old_set (by first | omega | (simp;done)|(simp;omega))] | rw[old_new (by first | omega | (simp;done)|(simp;omega))] | rw[old_tipIn (by first | (simp;done) | fail)] | rw[old_tip (by first | omega | (simp;done)|(simp;omega))] | refine old_left (by first | omega | (simp;done)|(simp;omega)) (by first | omega | (simp;done)|(simp;omega)) (by first | omega | (simp;done)|(simp;omega)) ?_);(first | exact ho | simp))
      · first | (simp;done)|(simp;omega)
    have ho:=ho1
    simp[hB,h0,h1,h5,hn,hg,hmd,c,hi2,t0,tj,dj,dj2,gj,tj2,dj3,gj2,w,hdl,hBb,wq1,wq2,hB1,hn1]
    all_goals (repeat refine⟨by omega,?_⟩)
    have a2:∀ S':St,S'.B b=some (svs done++.d (dS (markT (q)))::.d (dI ((q:Int)+1))::X.sv::Y.sv::svs rest)→(∀ x,x<S0.nx→x≠b→S'.B x=S2.B x)→At S' 0 S0.nx [.row none b l.length ((done++[.d (.string (markT (q))), .d (.int .i64 ((q:Int)+1)),X.mk (q+2)])++Y::rest)]:=fun S' h h'=>b1.put (by simp[varsL_app,varsL,Ld.vars]) (by rw[h];simp[mk_sv hrX,mk_sv hrY]) h'
    refine CallT_ex (mark_part (q:=q+2+X.sh.leaf) (A:=done++[.d (.string (markT (q))), .d (.int .i64 ((q:Int)+1)),X.mk (q+2)]) (R:=rest) hMY hrY (by simpa using a2 _ (by simp[hB1]) (fun x _ hx=>by simp[hx])) ?_ (by omega) (by omega) (by omega)) (fun S3 hw2=>?_)
    · first | (simp;done)|(simp;omega)
    obtain⟨hw2,b2⟩:=hw2
    have hB2:S3.B b=some (svs done++.d (dS (markT (q)))::.d (dI ((q:Int)+1))::X.sv::Y.sv::svs rest):=by
      rw[b2.cells];simp[mk_sv hrX,mk_sv hrY]
    have hn2:S3.n=42:=by rw[hw2.n];simpa using hn1
    have hx2:S0.nx≤S3.nx:=by rw[hw2.nx];first | (simp;done)|(simp;omega)
    have ho2:Old S0 (b::ids cs) [] S3:=by
      refine Old.went ?_ hw2 ?_ (fun x hx=>List.mem_cons_of_mem _ (by rw[← hid];have:=ids_part (A:=done++[.d (.string name), .d (.int .i64 kind),X]) (R:=rest) hx;simpa[ids,varsL_app,varsL,Ld.vars,mk_ids] using this))
      · ((repeat first | rw[old_adv] | rw[old_setIn (by first | (simp;done) | fail)] | rw[old_set (by first | omega | (simp;done)|(simp;omega))] | rw[old_new (by first | omega | (simp;done)|(simp;omega))] | rw[old_tipIn (by first | (simp;done) | fail)] | rw[old_tip (by first | omega | (simp;done)|(simp;omega))] | refine old_left (by first | omega | (simp;done)|(simp;omega)) (by first | omega | (simp;done)|(simp;omega)) (by first | omega | (simp;done)|(simp;omega)) ?_);(first | exact ho | simp))
      · first | (simp;done)|(simp;omega)
    have ho:=ho2
    simp[hB,h0,h1,h5,hn,hg,hmd,c,hi2,t0,tj,dj,dj2,gj,tj2,dj3,gj2,w,hdl,hBb,wq1,wq2,hB1,hn1,hB2,hn2]
    all_goals (repeat refine⟨by omega,?_⟩)
    refine⟨⟨i+1,hi2,q+2+X.sh.leaf+Y.sh.leaf,?_,by omega,done++[.d (.string (markT (q))), .d (.int .i64 ((q:Int)+1)),X.mk (q+2),Y.mk (q+2+X.sh.leaf)],rest,?_,?_,hr2,by omega,by omega,by simp[hdl];omega,?_,?_⟩,upTo_lt h5 (by simp) hi2⟩
    · first | omega | (simp;done)|(simp;omega)
    · exact b2.put (by simp[varsL_app,varsL,Ld.vars]) (by simp[mk_sv hrX,mk_sv hrY,hB2]) (fun x _ hx=>by simp[hx])
    · rw[← hm];simp[mkL,Ld.mk,mkV,Ld.sh,Sk.leaf]<;>omega
    · rw[← hid];simp[ids,varsL_app,varsL,Ld.vars,mk_ids]
    · ((repeat first | rw[old_adv] | rw[old_setIn (by first | (simp;done) | fail)] | rw[old_set (by first | omega | (simp;done)|(simp;omega))] | rw[old_new (by first | omega | (simp;done)|(simp;omega))] | rw[old_tipIn (by first | (simp;done) | fail)] | rw[old_tip (by first | omega | (simp;done)|(simp;omega))] | refine old_left (by first | omega | (simp;done)|(simp;omega)) (by first | omega | (simp;done)|(simp;omega)) (by first | omega | (simp;done)|(simp;omega)) ?_);(first | exact ho | simp))
  · have hi3:i=l.length:=by omega
    subst hi3
    rw[List.drop_eq_nil_of_le (by omega)] at hr
    have hr0:rest=[]:=by cases rest with
      | nil=>rfl
      | cons x r=>simp[shs,defsSk] at hr
    subst hr0
    simp only[mkL,List.append_nil] at hm ha
    simp only[shs,leafL,Nat.add_zero] at hq
    subst hm
    simp[hB,h0,h1,h5,hn,hg,hmd,c]
    exact⟨by omega,marks_end hat (ha.mono rfl) ho⟩
theorem marks_def (e:Bool) (l:List Def) (X:Ld) (hX:X.sh=skR e l.length (defsSk e l)):MarksX 33 X:=by
  rcases ld_row hX with ⟨rfl,h0,_⟩ | ⟨b,cs,rfl,h1,_⟩
  · exact marks_nil p_markDefS_nil
  · exact marks_of (fun S0 q hq1 hq2 hat=>l_markDefS e l S0 b q cs h1 hq1 hq2 hat)
theorem clGl_none (g:Nat) (h:g≠cleanAt):clGl g=none:=if_neg h
theorem clGl_some (x:D) (h:clGl cleanAt=some x):x=.pp [] 0:=by
  unfold clGl at h
  rw[if_pos rfl] at h
  exact (Option.some.inj h).symm
theorem clGl_clean:clGl cleanAt≠none:=by
  unfold clGl
  rw[if_pos rfl];simp
structure Grown (S S':St) (cs:List Sk):Prop where
  n:S'.n=S.n
  nx:S'.nx=S.nx+cntL cs
  gl:S'.gl=S.gl
  md:S'.md=S.md
  old:∀ x,x<S.nx→S'.B x=S.B x
  T:S'.T=S.T
  new:At S' S.nx (S.nx+cntL cs) (canL S.nx cs)
theorem Grown.add (S:St) (cs:List Sk):Grown S (addS S (cntL cs) (newL cs)) cs :=
  ⟨rfl,rfl,rfl,rfl,fun x hx=>by rw[addS_B,if_pos hx],rfl,At.added S cs⟩
theorem At.grown {S S':St}{lo hi:Nat}{cs:List Sk}{a:List Ld} (ha:At S lo hi a) (h:Grown S S' cs) (hh:hi≤S.nx):At S' lo hi a:=ha.keep fun b _ h2=>h.old b (by omega)
theorem call_row {S:St}{f:FuncId}{ss:List SV}{ds:List D}{x:Sk}{n:Nat}{gl:Nat→Option D} (h:FCall Tryz.prog gl f ds (x.can 0).sv (cntL [x]) (newL [x])) (hg:S.gl=gl) (hd:mapO (frz S.B n) ss=some ds) :
    ∃ S',LCall Tryz.prog f ss S (x.can S.nx).sv S'∧Grown S S' [x]:=by
  refine⟨_,?_,Grown.add S [x]⟩
  have:=LCall.ofF (S:=S) (by rw[hg];exact h) hd
  simpa using this
theorem At.frz {S:St}{lo hi:Nat}{a:List Ld} (h:At S lo hi a) {k:Nat} (hk:depL (shs a)<k):mapO (Go.Sh.frz S.B k) (svs a)=some (dataL (shs a))∧mapO (frzv S.B k) (svs a)=some (dataL (shs a)):=frz_lds a k h.has hk
theorem CallT_gen {P:Program}{S:St}{lo:Lo}{f:FuncId}{ss:List SV}{K:Bool→SV→St→Prop}{Q:St→Prop} (hQ:Q S) (h:∀ S',Q S'→CallT lo P f ss S' K):CallT lo P f ss S K:=h S hQ
theorem cntNm_le (l:List ByteArray) (r:Int) (h : -1≤r) (h0:0≤szNames l r):(l.length:Int)≤r - szNames l r:=by
  unfold szNames at h0 ⊢
  split at h0
  · omega
  · rename_i h1
    rw[if_neg h1]
    have:=szGo_le l (r - l.length) (by omega)
    omega
mutual
theorem cntV_le:∀ (v:Val) (r:Int), -1≤r→0≤szV v r→(cntV v:Int)≤3+3*(r - szV v r)
  | .mk k n t l ns,r,h,h0=>by
    simp only[szV] at h0 ⊢
    split at h0
    · omega
    · rename_i h1
      rw[if_neg h1]
      split at h0
      · omega
      · rename_i h2
        rw[if_neg h2]
        split at h0
        · omega
        · rename_i h3
          rw[if_neg h3]
          have a:=cntVs_le l (r - t.size) (by omega) (by omega)
          have b:=cntNm_le ns (szVs l (r - t.size)) (by omega) (by omega)
          simp only[cntV]
          omega
theorem cntVs_le:∀ (l:List Val) (r:Int), -1≤r→0≤szVs l r→(cntVs l:Int)≤3*(r - szVs l r)
  | l,r,h,h0=>by
    simp only[szVs] at h0 ⊢
    split at h0
    · omega
    · rename_i h1
      rw[if_neg h1]
      have:=cntVgo_le l (r - l.length) (by omega) h0
      omega
theorem cntVgo_le:∀ (l:List Val) (r:Int), -1≤r→0≤szVgo l r→(cntVs l:Int)≤3*l.length+3*(r - szVgo l r)
  | [],r,h,h0=>by simp only[cntVs,szVgo,List.length_nil];omega
  | v::l,r,h,h0=>by
    simp only[szVgo] at h0 ⊢
    split at h0
    · omega
    · rename_i h1
      rw[if_neg h1]
      have a:=cntV_le v r h (by omega)
      have b:=cntVgo_le l (szV v r) (by omega) h0
      have c:=szV_le v r h
      simp only[cntVs,List.length_cons]
      omega
end
end Go.Proofs.YtbmoiajdknejnaaGreat
namespace Go.Proofs.YtbmoiajdknejnaaGreat
open Go.Sh
def LeafLe {α:Type} (f:α→Int→Int) (sk:α→List Sk) (x:α):Prop:=∀ r:Int, -1≤r→0≤f x r→(leafL (sk x):Int)≤7+7*(r - f x r)
theorem leaf_go {α:Type}{f:α→Int→Int}{sk:α→List Sk}:∀ (l:List α),(∀ x∈l,SzLe f x)→(∀ x∈l,LeafLe f sk x)→∀ r:Int, -1≤r→0≤szGoR f l r→(leafL (l.flatMap sk):Int)≤7*l.length+7*(r - szGoR f l r)
  | [],_,_,r,h,h0=>by simp only[szGoR,List.flatMap_nil,leafL,List.length_nil];omega
  | x::l,hs,hx,r,h,h0=>by
    simp only[szGoR] at h0 ⊢
    split at h0
    · omega
    · rename_i h1
      rw[if_neg h1]
      have a:=hx x (by simp) r h (by omega)
      have b:=leaf_go l (fun y hy=>hs y (by simp[hy])) (fun y hy=>hx y (by simp[hy])) (f x r) (by omega) h0
      have c:=hs x (by simp) r h
      simp only[List.flatMap_cons,leafL_app,List.length_cons]
      omega
theorem leaf_row {α:Type}{f:α→Int→Int}{sk:α→List Sk}{l:List α} (hs:∀ x∈l,SzLe f x) (hx:∀ x∈l,LeafLe f sk x) (r:Int) (h : -1≤r) (h0:0≤szRow f l r):(leafL (l.flatMap sk):Int)≤7*(r - szRow f l r):=by
  unfold szRow at h0 ⊢
  split at h0
  · omega
  · rename_i h1
    rw[if_neg h1]
    have:=leaf_go l hs hx (r - l.length) (by omega) h0
    omega
theorem leaf_typ (e:Bool):∀ v:Typ,LeafLe szT (Typ.sk e) v
  | .mk t l b=>by
    intro r h h0
    have hr:=leaf_row (f:=szT) (sk:=Typ.sk e) (l:=l) (fun x _=>szT_le x) (fun x hx=>leaf_typ e x) (r - t.size)
    rw[← typsSk_flat] at hr
    simp only[szT,szTs_eq] at h0 ⊢
    split at h0
    · omega
    · rename_i h1
      rw[if_neg h1]
      split at h0
      · omega
      · rename_i h2
        rw[if_neg h2]
        have:=hr (by omega) (by omega)
        have e1:(skR e l.length (typsSk e l)).leaf=leafL (typsSk e l):=leaf_skR e (fun h=>by rw[List.eq_nil_of_length_eq_zero h];simp[typsSk])
        simp only[Typ.sk,leafL,Sk.leaf,e1]
        omega
termination_by v=>SizeOf.sizeOf v
decreasing_by
  have:=List.sizeOf_lt_of_mem hx
  simp_wf
  omega
theorem leaf_arg (e:Bool) (a:Arg):LeafLe szA (Arg.sk e) a:=fun r h h0=>by
  unfold szA at h0 ⊢
  split at h0
  · omega
  · rename_i h1
    rw[if_neg h1]
    split at h0
    · omega
    · rename_i h2
      rw[if_neg h2]
      split at h0
      · omega
      · rename_i h3
        rw[if_neg h3]
        obtain⟨name,ty,has,els⟩:=a
        simp only at h1 h2 h3 ⊢
        cases els with
        | mk k n t l ns =>
        have b:=cntV_le (.mk k n t l ns) _ (by omega) (Int.not_lt.1 h3)
        cases ty with
        | mk tt tl tb =>
        have hr:=leaf_row (f:=szT) (sk:=Typ.sk e) (l:=tl) (fun x _=>szT_le x) (fun x hx=>leaf_typ e x) (r - name.size - tt.size)
        rw[← typsSk_flat] at hr
        have e1:(skR e tl.length (typsSk e tl)).leaf=leafL (typsSk e tl):=leaf_skR e (fun h=>by rw[List.eq_nil_of_length_eq_zero h];simp[typsSk])
        have e2:=leaf_val e (.mk k n t l ns)
        have a2:(leafL (typsSk e tl):Int)≤7*(r - name.size - szT (.mk tt tl tb) (r - name.size)):=by
          simp only[szT,szTs_eq] at h2 ⊢
          split at h2
          · omega
          · rename_i g1
            rw[if_neg g1]
            split at h2
            · omega
            · rename_i g2
              rw[if_neg g2]
              have:=hr (by omega) (by omega)
              omega
        have c:=szV_le (.mk k n t l ns) (szT (.mk tt tl tb) (r - name.size)) (by omega)
        simp only[Arg.sk,leafL,Sk.leaf,leafL_app,Typ.sk,e1,e2]
        omega
theorem leaf_fld (e:Bool) (a:Fld):LeafLe szF (Fld.sk e) a:=fun r h h0=>by
  unfold szF at h0 ⊢
  split at h0
  · omega
  · rename_i h1
    rw[if_neg h1]
    split at h0
    · omega
    · rename_i h2
      rw[if_neg h2]
      split at h0
      · omega
      · rename_i h3
        rw[if_neg h3]
        have a1:=leaf_row (f:=szA) (sk:=Arg.sk e) (l:=a.args) (fun x _=>szA_le x) (fun x _=>leaf_arg e x) (r - a.name.size) (by omega) (by omega)
        have b:=leaf_typ e a.ty _ (by omega) (Int.not_lt.1 h3)
        have e1:(skR e a.args.length (argsSk e a.args)).leaf=leafL (argsSk e a.args):=leaf_skR e (fun h=>by rw[List.eq_nil_of_length_eq_zero h];rfl)
        have e2:argsSk e a.args=a.args.flatMap (Arg.sk e):=rfl
        rw[← e2] at a1
        obtain⟨name,args,ty⟩:=a
        cases ty with
        | mk tt tl tb =>
        have hr:=leaf_row (f:=szT) (sk:=Typ.sk e) (l:=tl) (fun x _=>szT_le x) (fun x hx=>leaf_typ e x)
        rw[← typsSk_flat] at hr
        have e3:(skR e tl.length (typsSk e tl)).leaf=leafL (typsSk e tl):=leaf_skR e (fun h=>by rw[List.eq_nil_of_length_eq_zero h];simp[typsSk])
        simp only at a1 b e1 h2 h3 ⊢
        generalize szRow szA args (r - name.size)=q at a1 b h2 h3 ⊢
        have a2:(leafL (typsSk e tl):Int)≤7*(q - szT (.mk tt tl tb) q):=by
          simp only[szT,szTs_eq] at h3 ⊢
          split at h3
          · omega
          · rename_i g1
            rw[if_neg g1]
            split at h3
            · omega
            · rename_i g2
              rw[if_neg g2]
              have:=hr (q - tt.size) (by omega) (by omega)
              omega
        simp only[Fld.sk,leafL,Sk.leaf,Typ.sk,e1,e3]
        omega
theorem leaf_def (e:Bool) (a:Def):LeafLe szD (Def.sk e) a:=fun r h h0=>by
  unfold szD at h0 ⊢
  split at h0
  · omega
  · rename_i h1
    rw[if_neg h1]
    split at h0
    · omega
    · rename_i h2
      rw[if_neg h2]
      split at h0
      · omega
      · rename_i h3
        rw[if_neg h3]
        have a1:=leaf_row (f:=szF) (sk:=Fld.sk e) (l:=a.flds) (fun x _=>szF_le x) (fun x _=>leaf_fld e x) (r - a.name.size) (by omega) (by omega)
        have b:=cntNm_le a.words _ (by omega) (Int.not_lt.1 h3)
        have e1:(skR e a.flds.length (fldsSk e a.flds)).leaf=leafL (fldsSk e a.flds):=leaf_skR e (fun h=>by rw[List.eq_nil_of_length_eq_zero h];rfl)
        have e2:fldsSk e a.flds=a.flds.flatMap (Fld.sk e):=rfl
        rw[← e2] at a1
        have e3:=leaf_skS e a.words
        simp only[Def.sk,leafL,Sk.leaf,e1,e3]
        omega
theorem leaf_defs (l:List Def) (h:0≤szRow szD l 1048576):leafL (defsSk true l)≤7340032:=by
  have:=leaf_row (f:=szD) (sk:=Def.sk true) (l:=l) (fun x _=>szD_le x) (fun x _=>leaf_def true x) 1048576 (by omega) h
  have e:defsSk true l=l.flatMap (Def.sk true):=rfl
  rw[e]
  omega
end Go.Proofs.YtbmoiajdknejnaaGreat
namespace Go.Proofs.YtbmoiajdknejnaaGreat
open Go.Sh
variable {gl:Nat→Option D}
def movS (S:St) (k b q:Nat) (old:Option Nat) (cs ws:List SV):St :=
  { S with B:=fun x=>if x=q then some ws else if x=b then some cs else if some x=old then none else if x<S.nx then S.B x else none,T:=fun x=>if x<S.nx then S.T x else none,nx:=S.nx+k }
theorem movS_keeps (S:St) (k b q:Nat) (old:Option Nat) (cs ws:List SV):Keeps S (movS S k b q old cs ws):=⟨rfl,rfl,rfl,Nat.le_add_right _ _⟩
theorem movS_elder {S S1:St}{k b q:Nat}{old:Option Nat}{cs ws:List SV} (hb:b<S.nx) (hq:S.nx≤q) (hk:q<S.nx+k) (hcs:ltS (S.nx+k) cs=true) (hws:ltS (S.nx+k) ws=true) (hne:cs≠[]) (hnw:ws≠[])
    (h1:S1.B q=some ws) (h2:S1.B b=some cs) (h3:∀ x,x<S.nx→x≠b→some x≠old→S1.B x=S.B x) (h4:∀ x,x<S.nx→S1.T x=S.T x):Elder S (movS S k b q old cs ws) S1:=by
  refine⟨rfl,rfl,rfl,Nat.le_add_right _ _,fun x c h=>?_,fun x p h=>?_,fun x h=>?_⟩
  · simp only[movS] at h ⊢
    split at h
    · rename_i e;cases h;subst e;exact⟨hk,⟨[],by simpa using h1⟩, .inl hws⟩
    · split at h
      · rename_i e;cases h;subst e;exact⟨by omega,⟨[],by simpa using h2⟩, .inl hcs⟩
      · rename_i e2
        split at h
        · cases h
        · rename_i e3
          split at h
          · rename_i hlt
            exact⟨by omega,⟨[],by rw[h3 x hlt e2 e3,List.append_nil];exact h⟩, .inr h⟩
          · cases h
  · simp only[movS] at h ⊢
    split at h
    · rename_i hlt;exact⟨by omega,by rw[h4 x hlt];exact h⟩
    · cases h
  · simp only[movS] at h
    split at h
    · cases h;exact absurd rfl hnw
    · split at h
      · cases h;exact absurd rfl hne
      · rename_i e2
        split at h
        · cases h
        · rename_i e3
          split at h
          · rename_i hlt;rw[h3 x hlt e2 e3];exact h
          · cases h
theorem at_word {S0 S':St}{lo hi hi' b n:Nat}{done rest:List Ld}{nm:ByteArray}{kind:Int}{X Y Z:Ld} (hat:At S0 lo hi [.row (some 4) b n (done++(.d (.string nm)::.d (.int .i64 kind)::X::Y::rest))])
    (h1:S'.B b=some (svs (done++(.d (.string nm)::.d (.int .i64 kind)::X::Z::rest)))) (h2:∀ x,lo≤x→x<hi→x≠b→x∉Y.vars.map (fun p=>p.1)→S'.B x=S0.B x) (h3:At S' hi hi' [Z]) (h4:hi≤hi') :
    At S' lo hi' [.row (some 4) b n (done++(.d (.string nm)::.d (.int .i64 kind)::X::Z::rest))]:=by
  have hh:=hat.has
  have hr:=hat.rng
  have hn:=hat.nodup
  have e:∀ Z:Ld,varsL [Ld.row (some 4) b n (done++(.d (.string nm)::.d (.int .i64 kind)::X::Z::rest))]=(b,svs (done++(.d (.string nm)::.d (.int .i64 kind)::X::Z::rest)))::(varsL done++(X.vars++(Z.vars++varsL rest))):=fun Z=>by simp[varsL,Ld.vars,varsL_app]
  have hz:∀ p∈Z.vars,S'.B p.1=some p.2∧hi≤p.1∧p.1<hi':=fun p hp=>⟨h3.has p (by simpa[varsL] using hp),h3.rng p (by simpa[varsL] using hp)⟩
  have hzn:(Z.vars.map (fun p=>p.1)).Nodup:=by have:=h3.nodup;simpa[varsL] using this
  rw[e] at hh hr hn
  simp only[List.map_cons,List.map_append,List.nodup_cons,List.nodup_append,List.mem_append,not_or] at hn
  obtain⟨⟨nA,nX,nY,nR⟩,dA,⟨dX,⟨dY,dR,yr⟩,xr⟩,ar⟩:=hn
  have old:∀ p,p∈varsL done∨p∈X.vars∨p∈varsL rest→S'.B p.1=some p.2∧lo≤p.1∧p.1<hi∧p.1≠b:=fun p hp=>by
    have hm:p∈(b,svs (done++(.d (.string nm)::.d (.int .i64 kind)::X::Y::rest)))::(varsL done++(X.vars++(Y.vars++varsL rest))):=by
      rcases hp with hp | hp | hp<;>simp[hp]
    have h5:=hr p hm
    have hpm:p.1≠b∧p.1∉Y.vars.map (fun p=>p.1):=by
      rcases hp with hp | hp | hp
      · exact⟨fun e=>nA (e▸List.mem_map_of_mem hp),fun hy=>ar _ (List.mem_map_of_mem hp) _ (.inr (.inl hy)) rfl⟩
      · exact⟨fun e=>nX (e▸List.mem_map_of_mem hp),fun hy=>xr _ (List.mem_map_of_mem hp) _ (.inl hy) rfl⟩
      · exact⟨fun e=>nR (e▸List.mem_map_of_mem hp),fun hy=>yr _ hy _ (List.mem_map_of_mem hp) rfl⟩
    exact⟨by rw[h2 p.1 h5.1 h5.2 hpm.1 hpm.2];exact hh p hm,h5.1,h5.2,hpm.1⟩
  refine⟨fun p hp=>?_,?_,fun p hp=>?_⟩
  · rw[e] at hp
    simp only[List.mem_cons,List.mem_append] at hp
    rcases hp with rfl | hp | hp | hp | hp
    · exact h1
    · exact (old p (.inl hp)).1
    · exact (old p (.inr (.inl hp))).1
    · exact (hz p hp).1
    · exact (old p (.inr (.inr hp))).1
  · rw[e]
    have lt1:∀ x,x∈(varsL done).map (fun p=>p.1)→x<hi:=fun x hx=>by obtain⟨p,hp,rfl⟩:=List.mem_map.1 hx;exact (old p (.inl hp)).2.2.1
    have lt2:∀ x,x∈X.vars.map (fun p=>p.1)→x<hi:=fun x hx=>by obtain⟨p,hp,rfl⟩:=List.mem_map.1 hx;exact (old p (.inr (.inl hp))).2.2.1
    have lt3:∀ x,x∈(varsL rest).map (fun p=>p.1)→x<hi:=fun x hx=>by obtain⟨p,hp,rfl⟩:=List.mem_map.1 hx;exact (old p (.inr (.inr hp))).2.2.1
    have ge:∀ x,x∈Z.vars.map (fun p=>p.1)→hi≤x:=fun x hx=>by obtain⟨p,hp,rfl⟩:=List.mem_map.1 hx;exact (hz p hp).2.1
    have hbh:=(hr (b,svs (done++(.d (.string nm)::.d (.int .i64 kind)::X::Y::rest))) (by simp)).2
    simp only[List.map_cons,List.map_append,List.nodup_cons,List.nodup_append,List.mem_append,not_or]
    refine⟨⟨nA,nX,fun h=>by have:=ge _ h;simp only at hbh;omega,nR⟩,dA,⟨dX,⟨hzn,dR,fun x hx y hy e=>by have:=ge x hx;have:=lt3 y hy;omega⟩,fun x hx y hy e=>?_⟩,fun x hx y hy e=>?_⟩
    · rcases hy with hy | hy
      · have:=ge y hy;have:=lt2 x hx;omega
      · exact xr x hx y (.inr hy) e
    · rcases hy with hy | hy | hy
      · exact ar x hx y (.inl hy) e
      · have:=ge y hy;have:=lt1 x hx;omega
      · exact ar x hx y (.inr (.inr hy)) e
  · rw[e] at hp
    simp only[List.mem_cons,List.mem_append] at hp
    rcases hp with rfl | hp | hp | hp | hp
    · have:=hr (b,svs (done++(.d (.string nm)::.d (.int .i64 kind)::X::Y::rest))) (by simp)
      simp only at this ⊢;omega
    · have:=old p (.inl hp);omega
    · have:=old p (.inr (.inl hp));omega
    · have:=hz p hp
      have hlo:=(hr (b,svs (done++(.d (.string nm)::.d (.int .i64 kind)::X::Y::rest))) (by simp))
      simp only at hlo;omega
    · have:=old p (.inr (.inr hp));omega
set_option maxHeartbeats 4000000 in
theorem l_addWord (S0:St) {lo hi b n i:Nat}{done rest:List Ld}{nm:ByteArray}{kind:Int}{ws:List ByteArray}{X Y:Ld} (w:ByteArray) (hY:Y.sh=skT ws) (hX:X.rowish=true) (hw:ws.length≤1048576) (hd:done.length=i*4)
    (hat:At S0 lo hi [.row (some 4) b n (done++(.d (.string nm)::.d (.int .i64 kind)::X::Y::rest))]) (hhi:hi≤S0.nx) :
    ∃ (S':St) (Y':Ld),LCall Tryz.prog 102 [.op b (i*4), .d (.pp [dS w] 0)] S0 (.d (dB (decide (kind=2)))) S'∧Y'.sh=skT (ws++[w]) ∧
      At S' lo S'.nx [.row (some 4) b n (done++(.d (.string nm)::.d (.int .i64 kind)::X::Y'::rest))]∧S'.n=S0.n∧S'.gl=S0.gl∧S'.md=S0.md∧S0.nx≤S'.nx∧∀ x,x<S0.nx→(x<lo∨hi≤x)→S'.B x=S0.B x:=by
  have hB:=hat.cells
  have hb:=hat.rng (b,svs (done++(.d (.string nm)::.d (.int .i64 kind)::X::Y::rest))) (by simp[varsL,Ld.vars])
  simp only at hb
  have hA:(svs done).length=i*4:=by rw[svs_len,hd]
  have gj:∀ (j:Nat) (L:List SV),(svs done++L)[i*4+j]?=L[j]?:=fun j L=>by rw[← hA,List.getElem?_append_right (by omega),Nat.add_sub_cancel_left]
  have tj:∀ j L,List.take (i*4+j) (svs done++L)=svs done++L.take j:=fun j L=>by rw[← hA,List.take_length_add_append]
  have dj2:∀ j k L,List.drop (i*4+j+k) (svs done++L)=L.drop (j+k):=fun j k L=>by rw[Nat.add_assoc, ← hA,List.drop_length_add_append]
  have hY':Y.sh=skZ 1 ws.length (txK ws):=hY
  have hcl:∀ Z:Ld,svs (done++(.d (.string nm)::.d (.int .i64 kind)::X::Z::rest))=svs done++(.d (dS nm)::.d (dI kind)::X.sv::Z.sv::svs rest):=fun Z=>by simp
  rw[hcl] at hB
  have nb:∀ a c,¬ b=S0.nx+a+c:=fun a c=>by omega
  have nb2:∀ a c,¬ S0.nx+a+c=b:=fun a c=>by omega
  have lts:∀ (Z:Ld) (k:Nat),(∀ p∈Z.vars,p.1<S0.nx+k)→ltS (S0.nx+k) (svs (done++(.d (.string nm)::.d (.int .i64 kind)::X::Z::rest)))=true:=fun Z k hz=>by
    refine (lt_lds _ fun p hp=>?_).1
    have hr:=hat.rng p
    simp only[varsL,Ld.vars,varsL_app,List.nil_append,List.append_nil,List.mem_append,List.mem_cons] at hp hr
    rcases hp with hp | hp | hp | hp
    · have:=hr (by simp[hp]);omega
    · have:=hr (by simp[hp]);omega
    · exact hz p hp
    · have:=hr (by simp[hp]);omega
  rcases ld_z hY' with ⟨rfl,h0⟩ | ⟨v,cs,rfl,hsc,hpos⟩
  · have hws:ws=[]:=List.eq_nil_of_length_eq_zero h0
    subst hws
    refine⟨movS S0 18 b (S0.nx+1+7) none (svs done++(SV.d (dS nm)::SV.d (dI kind)::X.sv::SV.sk (S0.nx+1+7) 1 1::svs rest)) [SV.d (dS w)], .row (some 1) (S0.nx+1+7) 1 [.d (.string w)],?_,?_,?_,rfl,rfl,rfl,by simp[movS],fun x h1 h2=>?_⟩
    · refine LCall.byE (md:=[1000010,1000011]) (movS_keeps _ _ _ _ _ _ _) (by simp[SV.lt,ltS]) Tryz.func102 rfl (by kernel_rfl) (n:=19) Tryz.ntmps102 (by simp) (by decide) rfl ?_
      simp[hB,gj,tj,dj2,hA,nb,nb2]
      refine⟨DrawT.mk (by kernel_rfl),by unfold appBound;omega,by omega,?_⟩
      have hl:=lts (.row (some 1) (S0.nx+1+7) 1 [.d (.string w)]) 18 (by simp[Ld.vars,varsL])
      rw[hcl] at hl
      refine movS_elder (by omega) (by omega) (by omega) hl (by simp[ltS,SV.lt]) (by simp) (by simp) (by simp[nb2]) (by simp) (fun x h1 h2 h3=>by ((try simp);(repeat first | rw[if_neg (by omega)] | rw[if_pos (by omega)]);(try (intro h;exfalso;omega));(try (intro _;(repeat first | rw[if_neg (by omega)] | rw[if_pos (by omega)]))))) (fun x h1=>rfl)
    · rfl
    · refine at_word hat (by simp[movS,nb]) (fun x h1 h2 h3 h4=>?_) ?_ (by first | (simp[movS];done)|(simp[movS];omega))
      · have e:¬ x=S0.nx+1+7:=by omega
        have e2:x<S0.nx:=by omega
        simp[movS,e,e2,h3]
      · exact .row (by simp[movS]) (by omega) (by first | (simp[movS];done)|(simp[movS];omega)) (.cons_d .nil) (by simp[varsL,Ld.vars])
    · have e:¬ x=S0.nx+1+7:=by omega
      have e2:¬ x=b:=by omega
      simp[movS,e,e2,h1]
  · have hv:=hat.has (v,svs cs) (by simp[varsL,Ld.vars,varsL_app])
    have hvr:=hat.rng (v,svs cs) (by simp[varsL,Ld.vars,varsL_app])
    have hvb:v≠b:=fun e=>by
      have:=hat.nodup
      simp only[varsL,Ld.vars,varsL_app,List.append_nil,List.nil_append,List.map_cons,List.map_append,List.nodup_cons,List.mem_append,List.mem_cons,not_or] at this
      exact this.1.2.2.1.1 e.symm
    simp only at hv hvr
    have hcs:cs=ldT ws:=ld_texts hsc
    subst hcs
    have hlen:(svs (ldT ws)).length=ws.length:=by simp
    have htk:List.take ws.length (svs (ldT ws))=svs (ldT ws):=List.take_of_length_le (by omega)
    have nv:∀ a c,¬ v=S0.nx+a+c:=fun a c=>by omega
    have nv2:∀ a c,¬ S0.nx+a+c=v:=fun a c=>by omega
    have nvb:¬ v=b:=hvb
    have nbv:¬ b=v:=fun e=>hvb e.symm
    refine⟨movS S0 18 b (S0.nx+1+7) (some v) (svs done++(SV.d (dS nm)::SV.d (dI kind)::X.sv::SV.sk (S0.nx+1+7) (ws.length+1) 1::svs rest)) (svs (ldT ws)++[SV.d (dS w)]), .row (some 1) (S0.nx+1+7) (ws.length+1) (ldT (ws++[w])),?_,?_,?_,rfl,rfl,rfl,by simp[movS],fun x h1 h2=>?_⟩
    · refine LCall.byE (md:=[1000010,1000011]) (movS_keeps _ _ _ _ _ _ _) (by simp[SV.lt,ltS]) Tryz.func102 rfl (by kernel_rfl) (n:=19) Tryz.ntmps102 (by simp) (by decide) rfl ?_
      simp[hB,gj,tj,dj2,hA,nb,nb2,hv,hlen,htk,nv,nv2,nvb,nbv]
      refine⟨DrawT.mk (by kernel_rfl),by unfold appBound;omega,by omega,?_⟩
      have hl:=lts (.row (some 1) (S0.nx+1+7) (ws.length+1) (ldT (ws++[w]))) 18 (by simp only[Ld.vars,ldT_vars,List.mem_singleton];rintro p rfl;simp only;omega)
      rw[hcl] at hl
      have hl2:ltS (S0.nx+18) (svs (ldT ws)++[SV.d (dS w)])=true:=by
        have:=(lt_lds (hi:=S0.nx+18) (ldT (ws++[w])) (by rw[ldT_vars];simp)).1
        simpa using this
      refine movS_elder (by omega) (by omega) (by omega) hl hl2 (by simp) (by simp) (by simp[nb2,nv2]) (by simp) (fun x h1 h2 h3=>by have h4:¬ x=v:=fun e=>h3 (by rw[e]);((try simp);(repeat first | rw[if_neg (by omega)] | rw[if_pos (by omega)]);(try (intro h;exfalso;omega));(try (intro _;(repeat first | rw[if_neg (by omega)] | rw[if_pos (by omega)]))));try rw[if_neg h4]) (fun x h1=>rfl)
    · have:=row_sh (z:=1) (b:=S0.nx+1+7) (n:=ws.length+1) (ldT_sh (ws++[w])) (by omega)
      rw[this,skT];simp
    · refine at_word hat (by simp[movS,nb]) (fun x h1 h2 h3 h4=>?_) ?_ (by first | (simp[movS];done)|(simp[movS];omega))
      · have e:¬ x=S0.nx+1+7:=by omega
        have e2:x<S0.nx:=by omega
        have e3:¬ x=v:=fun e=>h4 (by simp[Ld.vars,e])
        simp[movS,e,e2,h3,e3]
      · exact .row (by simp[movS]) (by omega) (by first | (simp[movS];done)|(simp[movS];omega)) (ldT_at _) (by rw[ldT_vars];simp)
    · have e:¬ x=S0.nx+1+7:=by omega
      have e2:¬ x=b:=by omega
      have e3:¬ x=v:=by omega
      simp[movS,e,e2,h1,e3]
theorem shift_sk (k b n sz:Nat):(SV.sk b n sz).shift k=.sk (k+b) n sz:=by simp[SV.shift]
theorem fin_tu {S:St}{lo hi:Nat}{x:Ld}{sk:Sk}{v:Value}{s:SV} (h:At S lo hi [x]) (e:x.sh=sk) (es:s=.tu [x.sv, .d (.v v)]):∃ M,FEnd S s (.tu [(sk.can 0).sv, .d (.v v)]) M (cntL [sk]) (newL [sk]):=by
  subst e;subst es
  have:=fend_ld h (s:=.tu [x.sv, .d (.v v)]) (r:=.tu [(x.sh.can 0).sv, .d (.v v)]) (.tu (by simp) (fun j h1 h2=>by
    match j,h1,h2 with
    | 0,_,_=>exact like_ld x 0 fun p hp=>by simp[prsL,hp]
    | 1,_,_=>exact .d v
    | j+2,h1,_=>exact absurd h1 (by simp)))
  exact⟨_,by simpa[shs] using this⟩
theorem defs_split {cs:List Ld}{ds:List Def}{i:Nat} (h:shs cs=rowsZ Def.sz ds) (hi:i<ds.length):∃ done X Y rest,cs=done++(.d (.string ds[i].name)::.d (.int .i64 ds[i].kind)::X::Y::rest)∧done.length=i*4∧shs done=rowsZ Def.sz (ds.take i) ∧
    X.sh=skZ 5 ds[i].flds.length (rowsZ Fld.sz ds[i].flds)∧Y.sh=skT ds[i].words∧shs rest=rowsZ Def.sz (ds.drop (i+1)):=by
  have e1:rowsZ Def.sz ds=rowsZ Def.sz (ds.take i)++(Def.sz ds[i]++rowsZ Def.sz (ds.drop (i+1))):=by
    simp only[rowsZ]
    rw[← List.flatMap_cons, ← List.flatMap_append, ← List.drop_eq_getElem_cons hi,List.take_append_drop]
  rw[e1] at h
  have hl:(rowsZ Def.sz (ds.take i)).length=i*4:=by rw[rowsZ_len def_szlen,List.length_take];congr 1;omega
  obtain⟨a1,a2⟩:=sh_split h
  rw[hl] at a1 a2
  have hlen:cs.length=i*4+(4+(rowsZ Def.sz (ds.drop (i+1))).length):=by rw[← shs_len,h];simp[hl]
  generalize hd:cs.drop (i*4)=r at a2
  match r,a2 with
  | c0::c1::X::Y::rest,a2 =>
    simp only[shs,Def.sz,List.cons_append,List.nil_append,List.cons.injEq] at a2
    obtain⟨b0,b1,b2,b3,b4⟩:=a2
    refine⟨cs.take (i*4),X,Y,rest,?_,by rw[List.length_take];omega,a1,b2,b3,b4⟩
    rw[← ld_d b0, ← ld_d b1, ← hd,List.take_append_drop]
  | [],a2=>simp[shs,Def.sz] at a2
  | [_],a2=>simp[shs,Def.sz] at a2
  | [_,_],a2=>simp[shs,Def.sz] at a2
  | [_,_,_],a2=>simp[shs,Def.sz] at a2
theorem defs_put {ds:List Def}{i:Nat}{d:Def} (hi:i<ds.length):rowsZ Def.sz (ds.set i d)=rowsZ Def.sz (ds.take i)++(Def.sz d++rowsZ Def.sz (ds.drop (i+1))):=by
  rw[List.set_eq_take_append_cons_drop,if_pos hi];simp[rowsZ]
theorem typB_one:∀ {v:Typ}{d:Nat},typB v d=true→TOne v
  | .mk t l b,0,h=>by simp[typB] at h
  | .mk t l b,d+1,h=>by
    unfold typB at h
    split at h
    · rename_i e
      split at h
      · rename_i x
        subst e
        exact .list (typB_one h)
      · cases h
    · rename_i e
      simp only[Bool.and_eq_true,decide_eq_true_eq] at h
      have:=List.eq_nil_of_length_eq_zero h.2
      subst this
      exact .name e
theorem fld_one {b:Bool}{f:Fld} (h:fldB b f=true) (hs:FldSm f):TOne f.ty∧f.args.length≤1048576∧∀ x∈f.args,ArgOne x:=by
  unfold fldB argsB at h
  simp only[Bool.and_eq_true,List.all_eq_true] at h
  refine⟨typB_one h.1.1,hs.2.1.1,fun x hx=>⟨?_,(hs.2.1.2 x hx).2.2⟩⟩
  have:=h.1.2.2.1 x hx
  unfold argB at this
  simp only[Bool.and_eq_true] at this
  exact typB_one this.1
theorem def_one {d:Def} (h:defB d=true) (hs:DefSm d):DefOne d∧d.words.length≤8:=by
  unfold defB at h
  simp only[Bool.and_eq_true] at h
  obtain⟨_,h⟩:=h
  split at h
  · simp only[Bool.and_eq_true,decide_eq_true_eq] at h
    unfold fldsB at h
    simp only[Bool.and_eq_true,List.all_eq_true] at h
    exact⟨⟨⟨hs.2.1.1,fun f hf=>fld_one (h.2.2.1 f hf) (hs.2.1.2 f hf)⟩,hs.2.2.1⟩,by omega⟩
  · split at h
    · simp only[Bool.and_eq_true,decide_eq_true_eq] at h
      have h0:=List.eq_nil_of_length_eq_zero h.1
      exact⟨⟨⟨hs.2.1.1,fun f hf=>by rw[h0] at hf;simp at hf⟩,hs.2.2.1⟩,h.2.2.1⟩
    · cases h
def moreR (nm w:ByteArray) (l:List Def):List Def×Bool:=if checkB l=0 then moreG nm w l l.length l else ([],false)
theorem check_ne {l:List Def} (h:checkB l=0):l≠[]:=by
  rintro rfl
  revert h
  decide
theorem at_row {S':St}{q K n z hi:Nat}{cs:List Sk} (hK:cntL [Sk.row (some z) n cs]=K) (hh:q+K≤hi) (h:∀ b,q≤b→b<q+K→S'.B b=(newL [Sk.row (some z) n cs] (b - q)).map (·.map (SV.shift q))):At S' q hi [.row (some z) q n (canL (q+1) cs)]:=by
  subst hK
  have:=(At.new h).le (Nat.le_refl _) hh
  simpa[canL,Sk.can] using this
set_option maxHeartbeats 8000000 in
theorem gz_schemaMore (hcl:gl cleanAt≠none) (l:List Def) (nm w:ByteArray) (hl:l.length≤1048576) (hsm:∀ d∈l,DefSm d) (hw:w.size≤1048576) :
    FCall Tryz.prog gl 101 [defsD l,dS nm, .fn (.func 102) [] [.pp [dS w] 0]] (.tu [((skDefs (moreR nm w l).1).can 0).sv, .d (dB (moreR nm w l).2)]) (cntL [skDefs (moreR nm w l).1]) (newL [skDefs (moreR nm w l).1]):=by
  have hC:=p_imCheck (gl:=gl) l hl hsm
  refine FCall.by_ (md:=[]) Tryz.func101 rfl (by kernel_rfl) (n:=43) Tryz.ntmps101 (by simp) (by decide) rfl ?_
  simp
  repeat refine⟨DrawT.mk (by kernel_rfl),?_⟩
  refine CallT.p0 (hC) (by first | rfl | (simp;done)|(simp;done)) (by first | rfl | (simp;done)|(simp;rfl)|(simp;done)) ?_
  simp
  refine BrT.dec (fun c=>?_) (fun c=>?_)
  · have hR:moreR nm w l=moreG nm w l l.length l:=if_pos c
    rw[hR]
    obtain⟨hnd,h10,hdef⟩:=check_once c
    have hne:=check_ne c
    have hl0:l.length≠0:=fun e=>hne (List.eq_nil_of_length_eq_zero e)
    have hone:∀ d∈l,DefOne d:=fun d hd=>(def_one (hdef d hd) (hsm d hd)).1
    have hcp:=gz_copyDefs hcl l hl hone
    have hsk:skDefs l=.row (some 4) l.length (rowsZ Def.sz l):=skZ_pos hl0
    simp[c,hsk,shift_sk]
    repeat refine⟨DrawT.mk (by kernel_rfl),?_⟩
    refine CallT.f (n:=40) (hcp) (by first | rfl | (simp;done)|(simp[c,hsk,shift_sk];done)) (by first | rfl | kernel_rfl) (by first | rfl | (simp;done)|(simp[c,hsk,shift_sk];done)) ?_
    simp[c,hsk,shift_sk]
    obtain⟨K0,hK0⟩:∃ K0,cntL [Sk.row (some 4) l.length (rowsZ Def.sz l)]=K0:=⟨_,rfl⟩
    simp only[hK0]
    refine LoopT.round (fun E S=>∃ (i:Nat) (ds:List Def) (cs:List Ld),(i≤l.length)∧E 0=some (.d (defsD l))∧E 1=some (.d (dS nm))∧E 2=some (.d (.fn (.func 102) [] [.pp [dS w] 0]))∧E 8=some (.sk 8 l.length 4)∧E 16=some (.d (dI l.length))∧E 17=some (.d (dI i))∧(ds.length=l.length)∧(At S 8 S.nx [.row (some 4) 8 l.length cs])∧(shs cs=rowsZ Def.sz ds)∧(moreG nm w l (ds.length - i) ds=moreG nm w l l.length l)∧(∀ d∈ds,DefSm d∧DefOne d)∧(∀ j (h:j<ds.length),i≤j→ds[j].words.length≤8)) (upTo 17 l.length) ⟨0,l,canL 9 (rowsZ Def.sz l),by simp[c,hsk,shift_sk];exact⟨at_row hK0 (by omega) (fun b h1 h2=>by ((try simp);(repeat first | rw[if_neg (by omega)] | rw[if_pos (by omega)]);(try (intro h;exfalso;omega));(try (intro _;(repeat first | rw[if_neg (by omega)] | rw[if_pos (by omega)]))))),canL_shs _ _,fun d hd=>⟨hsm d hd,hone d hd⟩,fun j hj=>(def_one (hdef _ (List.getElem_mem hj)) (hsm _ (List.getElem_mem hj))).2⟩⟩ ?_
    rintro E S hk ⟨i,ds,cs,hi,h0,h1,h2,h8,h16,h17,hds,hat,hcs,hgo,hsd,hun⟩
    have hn:S.n=43:=by first | (simpa using hk.n)|(have hh:=hk.n;simp[c,hsk,shift_sk] at hh;exact hh)
    have hg:S.gl=gl:=by first | (simpa using hk.gl)|(have hh:=hk.gl;simp[c,hsk,shift_sk] at hh;exact hh)
    have hmd:S.md=[]:=by first | (simpa using hk.md)|(have hh:=hk.md;simp[c,hsk,shift_sk] at hh;exact hh)
    simp[c,hsk,shift_sk,h0,h1,h2,h8,h16,h17,hn,hg,hmd]
    have w1:=wrap64 (n:=(i:Int)+1) (by omega) (by omega)
    refine BrT.dec (fun c2=>?_) (fun c2=>?_)
    · have hi2:i<l.length:=by omega
      have hi3:i<ds.length:=by omega
      have hgi:=moreG_at (nm:=nm) (w:=w) (l:=l) hi3
      rw[hgo] at hgi
      obtain⟨done,X,Y,rest,rfl,hdl,hsd2,hX,hY,hsr⟩:=defs_split hcs hi3
      have hrX:X.rowish=true:=by rcases ld_z hX with ⟨rfl,_⟩ | ⟨_,_,rfl,_⟩<;>rfl
      have hB8:=hat.cells
      have hA:(svs done).length=i*4:=by rw[svs_len,hdl]
      have gj:∀ (L:List SV),(svs done++L)[i*4]?=L[0]?:=fun L=>by rw[← hA,List.getElem?_append_right (Nat.le_refl _),Nat.sub_self]
      have hcells:∀ Z:Ld,svs (done++(.d (.string ds[i].name)::.d (.int .i64 ds[i].kind)::X::Z::rest))=svs done++(.d (dS ds[i].name)::.d (dI ds[i].kind)::X.sv::Z.sv::svs rest):=fun Z=>by simp
      rw[hcells] at hB8
      have hwi:=hun i hi3 (Nat.le_refl _)
      by_cases hnm:ds[i].name=nm
      · rw[if_pos hnm] at hgi
        obtain⟨S2,Y2,hcall,hY2,hat2,n2,g2,md2,nx2,old2⟩:=l_addWord (((S.adv 1).adv 2).adv 15) (lo:=8) (hi:=S.nx) w hY hrX (by omega) hdl (hat.mono rfl) (by first | (simp;done)|(simp;omega))
        obtain⟨ds2,hds2⟩:∃ ds2,ds.set i (addW w ds[i])=ds2:=⟨_,rfl⟩
        have hcs2:shs (done++(.d (.string ds[i].name)::.d (.int .i64 ds[i].kind)::X::Y2::rest))=rowsZ Def.sz ds2:=by
          rw[← hds2,defs_put hi3,shs_app,hsd2];simp[shs,Ld.sh,Def.sz,addW,hX,hY2,hsr]
        have hlen2:ds2.length=l.length:=by rw[← hds2];simpa using hds
        have hlq:ds.length=ds2.length:=by omega
        have hsd3:∀ d∈ds2,DefSm d∧DefOne d:=fun d hd=>by
          rw[← hds2] at hd
          rcases List.mem_or_eq_of_mem_set hd with hd | rfl
          · exact hsd d hd
          · obtain⟨s1,s2⟩:=hsd _ (List.getElem_mem hi3)
            refine⟨⟨s1.1,s1.2.1,?_,fun s hs=>?_⟩,s2.1,?_⟩
            · simp only[addW,List.length_append,List.length_singleton];omega
            · simp only[addW,List.mem_append,List.mem_singleton] at hs
              rcases hs with hs | rfl
              · exact s1.2.2.2 s hs
              · exact hw
            · simp only[addW,List.length_append,List.length_singleton];omega
        have hun2:∀ j (h:j<ds2.length),i+1≤j→ds2[j].words.length≤8:=fun j hj hle=>by
          subst hds2
          rw[List.getElem_set_ne (by omega)]
          exact hun j (by simpa using hj) (by omega)
        rw[hds2] at hgi
        have hC2:=p_imCheck (gl:=S2.gl) ds2 (by omega) fun d hd=>(hsd3 d hd).1
        have hcp2:=gz_copyDefs hcl ds2 (by omega) fun d hd=>(hsd3 d hd).2
        have hne2:ds2.length≠0:=by omega
        have hsk2:skDefs ds2=.row (some 4) ds2.length (rowsZ Def.sz ds2):=skZ_pos hne2
        have hfz:∀ (S':St) (hi':Nat),At S' 8 hi' [.row (some 4) 8 l.length (done++(.d (.string ds[i].name)::.d (.int .i64 ds[i].kind)::X::Y2::rest))]→mapO (frz S'.B (depL [skDefs ds2]+1)) [.sk 8 l.length 4]=some [defsD ds2]:=fun S' hi' h=>by
          have e1:(Ld.row (some 4) 8 l.length (done++(.d (.string ds[i].name)::.d (.int .i64 ds[i].kind)::X::Y2::rest))).sh=skDefs ds2:=by rw[hsk2,hlen2, ← hcs2];rfl
          have:=(h.frz (k:=depL [skDefs ds2]+1) (by simp only[shs,e1];omega)).1
          simp only[shs,e1,dataL,skDefs_data,svs_cons,svs_nil,Ld.sv_row,rowV_some] at this
          exact this
        simp[c,hsk,shift_sk,h0,h1,h2,h8,h16,h17,hn,hg,hmd,c2,hi2,w1,hB8,hA,gj,hnm]
        refine CallT.l hcall rfl ?_
        have n2':S2.n=43:=by rw[n2];simpa using hn
        have g2':S2.gl=gl:=by rw[g2];simpa using hg
        by_cases hk2:ds[i].kind=2
        · rw[if_pos hk2] at hgi
          simp[c,hsk,shift_sk,h0,h1,h2,h8,h16,h17,hn,hg,hmd,c2,hi2,w1,hB8,hA,gj,hnm,n2',g2',hk2]
          refine CallT.l (LCall.ofP (k:=depL [skDefs ds2]+1) hC2 (hfz _ S2.nx (hat2.mono rfl))) rfl ?_
          simp[c,hsk,shift_sk,h0,h1,h2,h8,h16,h17,hn,hg,hmd,c2,hi2,w1,hB8,hA,gj,hnm,n2',g2',hk2]
          refine BrT.dec (fun c3=>?_) (fun c3=>?_)
          · rw[if_pos c3] at hgi
            rw[hgi]
            simp only[hsk2]
            rw[hsk2] at hcp2
            simp[c,hsk,shift_sk,h0,h1,h2,h8,h16,h17,hn,hg,hmd,c2,hi2,w1,hB8,hA,gj,hnm,n2',g2',hk2,c3]
            refine CallT.f (n:=depL [skDefs ds2]+1) hcp2 (by simp[g2']) rfl (hfz _ S2.nx (hat2.mono rfl)) ?_
            simp[c,hsk,shift_sk,h0,h1,h2,h8,h16,h17,hn,hg,hmd,c2,hi2,w1,hB8,hA,gj,hnm,n2',g2',hk2,c3]
            have e:(SV.tu [SV.sk 0 ds2.length 4, .d (dB true)])=.tu [((Sk.row (some 4) ds2.length (rowsZ Def.sz ds2)).can 0).sv, .d (.v (.bool true))]:=by simp[Sk.can]
            rw[e]
            exact fin_tu (x:=.row (some 4) (S2.nx+7) ds2.length (canL (S2.nx+7+1) (rowsZ Def.sz ds2))) (at_row rfl (Nat.le_refl _) (fun b h1 h2=>by ((try simp);(repeat first | rw[if_neg (by omega)] | rw[if_pos (by omega)]);(try (intro h;exfalso;omega));(try (intro _;(repeat first | rw[if_neg (by omega)] | rw[if_pos (by omega)])))))) (by simp[Ld.sh,canL_shs]) rfl
          · rw[if_neg c3,hlq] at hgi
            simp[c,hsk,shift_sk,h0,h1,h2,h8,h16,h17,hn,hg,hmd,c2,hi2,w1,hB8,hA,gj,hnm,n2',g2',hk2,c3]
            exact⟨⟨i+1,hi2,by omega,ds2,hlen2,_,(hat2.le (Nat.le_refl _) (by omega)).mono rfl,hcs2,hgi.symm,hsd3,hun2⟩,upTo_lt h17 (by simp) hi2⟩
        · rw[if_neg hk2,hlq] at hgi
          simp[c,hsk,shift_sk,h0,h1,h2,h8,h16,h17,hn,hg,hmd,c2,hi2,w1,hB8,hA,gj,hnm,n2',g2',hk2]
          exact⟨⟨i+1,hi2,by omega,ds2,hlen2,_,(hat2.le (Nat.le_refl _) (by omega)).mono rfl,hcs2,hgi.symm,hsd3,hun2⟩,upTo_lt h17 (by simp) hi2⟩
      · rw[if_neg hnm] at hgi
        simp[c,hsk,shift_sk,h0,h1,h2,h8,h16,h17,hn,hg,hmd,c2,hi2,w1,hB8,hA,gj,hnm]
        exact⟨⟨i+1,hi2,by omega,ds,hds,_,(hat.le (Nat.le_refl _) (by omega)).mono rfl,hcs,hgi.symm,hsd,fun j hj hle=>hun j hj (by omega)⟩,upTo_lt h17 (by simp) hi2⟩
    · have hi4:i=l.length:=by omega
      subst hi4
      have hfin:moreG nm w l l.length l=(l,false):=by rw[← hgo, ← hds];exact moreG_end
      rw[hfin]
      simp[c,hsk,shift_sk,h0,h1,h2,h8,h16,h17,hn,hg,hmd,c2]
      repeat refine⟨DrawT.mk (by kernel_rfl),?_⟩
      refine CallT.f (n:=40) (hcp) (by first | rfl | (simp;done)|(simp[c,hsk,shift_sk,h0,h1,h2,h8,h16,h17,hn,hg,hmd,c2];done)) (by first | rfl | kernel_rfl) (by first | rfl | (simp;done)|(simp[c,hsk,shift_sk,h0,h1,h2,h8,h16,h17,hn,hg,hmd,c2];done)) ?_
      simp[c,hsk,shift_sk,h0,h1,h2,h8,h16,h17,hn,hg,hmd,c2]
      have e:(SV.tu [SV.sk 0 l.length 4, .d (dB false)])=.tu [((Sk.row (some 4) l.length (rowsZ Def.sz l)).can 0).sv, .d (.v (.bool false))]:=by simp[Sk.can]
      rw[e]
      exact fin_tu (x:=.row (some 4) (S.nx+5) l.length (canL (S.nx+5+1) (rowsZ Def.sz l))) (at_row rfl (Nat.le_refl _) (fun b h1 h2=>by ((try simp);(repeat first | rw[if_neg (by omega)] | rw[if_pos (by omega)]);(try (intro h;exfalso;omega));(try (intro _;(repeat first | rw[if_neg (by omega)] | rw[if_pos (by omega)])))))) (by simp[Ld.sh,canL_shs]) rfl
  · have hR:moreR nm w l=([],false):=if_neg c
    rw[hR]
    simp[c]
    exact fin_tu (x:=.nil) (sk:=skDefs []) ((At.cons_nil .nil:At _ 0 0 _)) rfl rfl
set_option maxHeartbeats 8000000 in
theorem g_l9Field (a:Fld) (hty:TLe 1048576 a.ty) (hl:a.args.length≤1048576) (hs:∀ x∈a.args,TLe 1048576 x.ty∧Small x.els):fldZ gl 192 [a.d] a:=by
  obtain⟨fname,l,fty⟩:=a
  simp only at hty hl hs
  have g0:=g_l2Copy (gl:=gl) fty hty
  cases fty with
  | mk ft fl fb =>
  have hT0:=typ_svsZ ft fl fb
  refine FCall.by_ (md:=[1000037,1000038]) Tryz.func192 rfl (by kernel_rfl) (n:=41) Tryz.ntmps192 (by simp) (by decide) rfl ?_
  simp[Fld.cells,Typ.cells,hT0]
  refine⟨DrawT.ol [((1,1),6),((3,1),6)] (by kernel_rfl) (by simp),?_⟩
  refine CallT.o (n:=40) [((1,1),4)] (g0) (by first | rfl | (simp;done)|(simp[Fld.cells,Typ.cells,hT0];done)) (by kernel_rfl) (by kernel_rfl) (by first | (simp[Eh.e];done)|(simp[Fld.cells,Typ.cells,hT0,Eh.e];done)|(simp[Fld.cells,Typ.cells,hT0,Eh.e];omega)) (by first | (simp[Ar.a];done)|(simp[Ar.a];omega)) (fun B' hB'=>by first | rfl | (simp;done)|(simp[hB'];done)|(simp[Fld.cells,Typ.cells,hT0,hB'];done)) ?_
  simp[Fld.cells,Typ.cells,hT0]
  obtain⟨K,hK⟩:∃ K,cntL (Typ.sz (.mk ft fl fb))=K:=⟨_,rfl⟩
  simp only[hK]
  refine LoopT.round (fun E S=>∃ (i:Nat) (x:Ld),(i≤l.length)∧E 1=some (.op 0 0)∧E 2=some (.op 1 0)∧E 3=some (.op 8 0)∧E 4=some (.d (dI i))∧S.B 0=some ([.d (dS fname), .d (argsD l), .d (dS ft), .d (typsD fl), .d (dB fb)])∧S.B 1=some (zField)∧S.B 8=some ([.d (dS fname),x.sv, .d (dS ft),((skZ 3 fl.length (typsZ fl)).can 10).sv, .d (dB fb)])∧(x.sh=skZ 10 i (rowsZ Arg.sz (l.take i)))∧(At S 10 (10+K) (canL 10 (Typ.sz (.mk ft fl fb))))∧(At S (10+K) S.nx [x])∧(10+K≤S.nx)) (upTo 4 l.length) ⟨0, .nil,by simp[Fld.cells,Typ.cells,hT0];exact⟨by simp[Ld.sh],hK▸At.new fun b h1 h2=>(by ((try simp);(repeat first | rw[if_neg (by omega)] | rw[if_pos (by omega)]);(try (intro h;exfalso;omega)))), .cons_nil .nil⟩⟩ ?_
  rintro E S hk ⟨i,x,hi,h1,h2,h3,h4,hB0,hB1,hB8,hX,ht,ha,hx⟩
  have hn:S.n=41:=by first | (simpa using hk.n)|(have hh:=hk.n;simp[Fld.cells,Typ.cells,hT0] at hh;exact hh)
  have hg:S.gl=gl:=by first | (simpa using hk.gl)|(have hh:=hk.gl;simp[Fld.cells,Typ.cells,hT0] at hh;exact hh)
  have hmd:S.md=[1000037,1000038]:=by first | (simpa using hk.md)|(have hh:=hk.md;simp[Fld.cells,Typ.cells,hT0] at hh;exact hh)
  simp[Fld.cells,Typ.cells,hT0,h1,h2,h3,h4,hB0,hB1,hB8,hn,hg,hmd]
  have w:=wrap64 (n:=(i:Int)+1) (by omega) (by omega)
  obtain⟨o1,o2,o3⟩:=z_one hX
  refine BrT.dec (fun c=>?_) (fun c=>?_)
  · have hi2:i<l.length:=by omega
    have hlen:=args_len l
    have hfit:i*10+10≤l.length*10:=by omega
    have hat:=args_at l hi2
    have hvn:=rowsZ_next Arg.sz l hi2
    obtain⟨hty2,hel⟩:=hs _ (List.getElem_mem hi2)
    generalize l[i]=a at hat hvn hty2 hel
    obtain⟨name,ty,has,els⟩:=a
    simp only at hty2 hel
    have g1:=g_l2Copy (gl:=gl) ty hty2
    have g2:=g_l1Copy (gl:=gl) els hel
    cases ty with
    | mk tt tl tb =>
    cases els with
    | mk ek en et el ens =>
    have hT:=typ_svsZ tt tl tb
    have hV:=val_svsZ ek en et el ens
    simp[Fld.cells,Typ.cells,hT0,h1,h2,h3,h4,hB0,hB1,hB8,hn,hg,hmd,c,hi2,w,hlen,hfit,hat,Arg.cells,Typ.cells,Val.cells,hT,hV,can_sv,o1,o2]
    refine⟨DrawT.mk (by kernel_rfl),?_⟩
    refine CallT.o (n:=40) [((1,3),6),((3,5),6),((8,5),6),((10,5),6)] (g1) (by first | rfl | (simp;done)|(simp[Fld.cells,Typ.cells,hT0,h1,h2,h3,h4,hB0,hB1,hB8,hn,hg,hmd,c,hi2,w,hlen,hfit,hat,Arg.cells,Typ.cells,Val.cells,hT,hV,can_sv,o1,o2];done)) (by kernel_rfl) (by kernel_rfl) (by first | (simp[Eh.e];done)|(simp[Fld.cells,Typ.cells,hT0,h1,h2,h3,h4,hB0,hB1,hB8,hn,hg,hmd,c,hi2,w,hlen,hfit,hat,Arg.cells,Typ.cells,Val.cells,hT,hV,can_sv,o1,o2,Eh.e];done)|(simp[Fld.cells,Typ.cells,hT0,h1,h2,h3,h4,hB0,hB1,hB8,hn,hg,hmd,c,hi2,w,hlen,hfit,hat,Arg.cells,Typ.cells,Val.cells,hT,hV,can_sv,o1,o2,Eh.e];omega)) (by first | (simp[Ar.a];done)|(simp[Ar.a];omega)) (fun B' hB'=>by first | rfl | (simp;done)|(simp[hB'];done)|(simp[Fld.cells,Typ.cells,hT0,h1,h2,h3,h4,hB0,hB1,hB8,hn,hg,hmd,c,hi2,w,hlen,hfit,hat,Arg.cells,Typ.cells,Val.cells,hT,hV,can_sv,o1,o2,hB'];done)) ?_
    simp[Fld.cells,Typ.cells,hT0,h1,h2,h3,h4,hB0,hB1,hB8,hn,hg,hmd,c,hi2,w,hlen,hfit,hat,Arg.cells,Typ.cells,Val.cells,hT,hV,can_sv,o1,o2]
    refine CallT.o (n:=40) [((1,3),11),((3,5),11),((8,5),11)] (g2) (by first | rfl | (simp;done)|(simp[Fld.cells,Typ.cells,hT0,h1,h2,h3,h4,hB0,hB1,hB8,hn,hg,hmd,c,hi2,w,hlen,hfit,hat,Arg.cells,Typ.cells,Val.cells,hT,hV,can_sv,o1,o2];done)) (by kernel_rfl) (by kernel_rfl) (by first | (simp[Eh.e];done)|(simp[Fld.cells,Typ.cells,hT0,h1,h2,h3,h4,hB0,hB1,hB8,hn,hg,hmd,c,hi2,w,hlen,hfit,hat,Arg.cells,Typ.cells,Val.cells,hT,hV,can_sv,o1,o2,Eh.e];done)|(simp[Fld.cells,Typ.cells,hT0,h1,h2,h3,h4,hB0,hB1,hB8,hn,hg,hmd,c,hi2,w,hlen,hfit,hat,Arg.cells,Typ.cells,Val.cells,hT,hV,can_sv,o1,o2,Eh.e];omega)) (by first | (simp[Ar.a];done)|(simp[Ar.a];omega)) (fun B' hB'=>by first | rfl | (simp;done)|(simp[hB'];done)|(simp[Fld.cells,Typ.cells,hT0,h1,h2,h3,h4,hB0,hB1,hB8,hn,hg,hmd,c,hi2,w,hlen,hfit,hat,Arg.cells,Typ.cells,Val.cells,hT,hV,can_sv,o1,o2,hB'];done)) ?_
    simp[Fld.cells,Typ.cells,hT0,h1,h2,h3,h4,hB0,hB1,hB8,hn,hg,hmd,c,hi2,w,hlen,hfit,hat,Arg.cells,Typ.cells,Val.cells,hT,hV,can_sv,o1,o2]
    obtain⟨K1,hK1⟩:∃ K1,cntL (Typ.sz (.mk tt tl tb))=K1:=⟨_,rfl⟩
    obtain⟨K2,hK2⟩:∃ K2,cntL (Val.sz (.mk ek en et el ens))=K2:=⟨_,rfl⟩
    obtain⟨q1,hq1⟩:∃ q1,S.nx+5+7+17=q1:=⟨_,rfl⟩
    obtain⟨N,hN⟩:∃ N:List Ld,N=.d (.string name)::(canL q1 (Typ.sz (.mk tt tl tb))++.d (.bool has)::canL (q1+K1) (Val.sz (.mk ek en et el ens))):=⟨_,rfl⟩
    have hNs:svs N=[.d (dS name), .d (dS tt),((skZ 3 tl.length (typsZ tl)).can q1).sv, .d (dB tb), .d (dB has), .d (dI ek), .d (dI en), .d (dS et),((skZ 5 el.length (valsZ el)).can (q1+K1)).sv,((skT ens).can (q1+K1+(skZ 5 el.length (valsZ el)).cnt)).sv]:=by rw[hN];simp[hT,hV]
    have hNh:shs N=Arg.sz ⟨name, .mk tt tl tb,has, .mk ek en et el ens⟩:=by rw[hN];simp[shs_app,canL_shs,shs,Ld.sh,Arg.sz]
    have hNa:∀ S':St,(∀ b,q1≤b→b<q1+K1→S'.B b=(newL (Typ.sz (.mk tt tl tb)) (b - q1)).map (·.map (SV.shift q1)))→(∀ b,q1+K1≤b→b<q1+K1+K2→S'.B b=(newL (Val.sz (.mk ek en et el ens)) (b - (q1+K1))).map (·.map (SV.shift (q1+K1))))→At S' q1 (q1+K1+K2) N:=fun S' h1 h2=>by
      rw[hN]
      exact .cons_d (.app (mid:=q1+K1) (hK1▸At.new (by rw[hK1];exact h1)) (.cons_d (hK2▸At.new (by rw[hK2];exact h2))) (by omega) (by omega))
    have hNr:∀ p∈varsL N,q1≤p.1:=fun p hp=>by
      rw[hN] at hp
      simp only[varsL,Ld.vars,List.nil_append,varsL_app,List.mem_append] at hp
      rcases hp with hp | hp
      · have:=canL_rng hp;omega
      · have:=canL_rng hp;omega
    simp only[hK1,hK2,hq1]
    have e1:∀ k,k<10→k<q1:=fun k hk=>by omega
    have e2:∀ k,k<10→k<q1+K1:=fun k hk=>by omega
    rcases ld_z hX with ⟨rfl,h0⟩ | ⟨b',cs,rfl,hsc,hpos⟩
    · simp[Fld.cells,Typ.cells,hT0,h1,h2,h3,h4,hB0,hB1,hB8,hn,hg,hmd,c,hi2,w,hlen,hfit,hat,Arg.cells,Typ.cells,Val.cells,hT,hV,can_sv,o1,o2,hq1,e1,e2]
      refine⟨by unfold appBound;omega,⟨i+1,hi2,by omega, .row (some 10) (S.nx+5+7+14) 1 N,rfl,?_,?_,?_,by omega⟩,upTo_lt h4 (by simp) hi2⟩
      · subst h0
        exact row_sh (by rw[hNh,hvn];simp[rowsZ]) (by omega)
      · exact ht.keep fun b h1 h2=>by ((try simp);(repeat first | rw[if_neg (by omega)] | rw[if_pos (by omega)]);(try (intro h;exfalso;omega)))
      · refine .row (by rw[hNs];simp) (by omega) (by omega) ((hNa _ ?_ ?_).le (by omega) (by omega)) (fun p hp=>by have:=hNr p hp;omega)
        · intro b h1 h2;(((try simp);(repeat first | rw[if_neg (by omega)] | rw[if_pos (by omega)]);(try (intro h;exfalso;omega))));simp only[hq1]
        · intro b h1 h2;(((try simp);(repeat first | rw[if_neg (by omega)] | rw[if_pos (by omega)]);(try (intro h;exfalso;omega))));simp only[hq1]
    · have hb:=ha.rng (b',svs cs) (by simp[varsL,Ld.vars])
      have hBb:=ha.has (b',svs cs) (by simp[varsL,Ld.vars])
      have hA:(svs cs).length=i*10:=by rw[svs_len, ← shs_len,hsc,rowsZ_len arg_szlen,List.length_take];congr 1;omega
      simp only at hb hBb
      have hlt:b'<q1:=by omega
      have htk:List.take (i*10) (svs cs)=svs cs:=List.take_of_length_le (by omega)
      have nb:∀ k,k<10→¬ k=b':=fun k hk=>by omega
      have nb2:∀ k,k<10→¬ b'=k:=fun k hk=>by omega
      have hlt2:b'<q1+K1:=by omega
      have nbx:¬ b'=S.nx+5+5:=by omega
      have nbx2:¬ S.nx+5+5=b':=by omega
      simp[Fld.cells,Typ.cells,hT0,h1,h2,h3,h4,hB0,hB1,hB8,hn,hg,hmd,c,hi2,w,hlen,hfit,hat,Arg.cells,Typ.cells,Val.cells,hT,hV,can_sv,o1,o2,hq1,e1,e2,hBb,hA,hlt,hlt2,htk,nbx,nbx2,nb,nb2]
      refine⟨by unfold appBound;omega,⟨i+1,hi2,by omega, .row (some 10) (S.nx+5+7+14) (i+1) (cs++N),rfl,?_,?_,?_,by omega⟩,upTo_lt h4 (by simp) hi2⟩
      · exact row_sh (by rw[shs_app,hNh,hvn,hsc]) (by omega)
      · exact ht.keep fun b h1 h2=>by ((try simp);(repeat first | rw[if_neg (by omega)] | rw[if_pos (by omega)]);(try (intro h;exfalso;omega)))
      · refine ha.grow (lo2:=q1) (hi':=q1+K1+K2+3) ((hNa _ ?_ ?_).le (Nat.le_refl _) (by omega)) (by rw[svs_app,hNs];simp) ?_ (by omega) (by omega) (by omega) (by omega) (fun p hp=>by have:=hNr p hp;omega) (by omega)
        · intro b h1 h2;(((try simp);(repeat first | rw[if_neg (by omega)] | rw[if_pos (by omega)]);(try (intro h;exfalso;omega))));simp only[hq1]
        · intro b h1 h2;(((try simp);(repeat first | rw[if_neg (by omega)] | rw[if_pos (by omega)]);(try (intro h;exfalso;omega))));simp only[hq1]
        · intro x h1 h2 h3;((try simp);(repeat first | rw[if_neg (by omega)] | rw[if_pos (by omega)]);(try (intro h;exfalso;omega)))
  · have hi3:i=l.length:=by omega
    subst hi3
    rw[List.take_length] at hX
    simp[Fld.cells,Typ.cells,hT0,h1,h2,h3,h4,hB0,hB1,hB8,hn,hg,hmd,c,o1,o2,o3]
    refine fin_ag (lo:=10) (hi:=S.nx) (cs:=.d (.string fname)::([x]++canL 10 (Typ.sz (.mk ft fl fb)))) (.cons_d (.app2 (mid:=10+K) (ha.keep fun b h1 h2=>by ((try simp);(repeat first | rw[if_neg (by omega)] | rw[if_pos (by omega)]);(try (intro h;exfalso;omega)))) (ht.keep fun b h1 h2=>by ((try simp);(repeat first | rw[if_neg (by omega)] | rw[if_pos (by omega)]);(try (intro h;exfalso;omega)))) (by omega) (by omega))) ?_ ?_
    · simp[shs,Ld.sh,Fld.sz,hX,canL_shs]
    · simp[hT0]
def DefCp (a:Def):Prop:=(a.flds.length≤1048576∧∀ f∈a.flds,TLe 1048576 f.ty∧f.args.length≤1048576∧∀ x∈f.args,TLe 1048576 x.ty∧Small x.els)∧a.words.length≤1048576
set_option maxHeartbeats 16000000 in
theorem g_l9Copy (l:List Def) (hl:l.length≤1048576) (hs:∀ a∈l,DefCp a):rowF1 gl 100 [defsD l] (skDefs l):=by
  refine FCall.by_ (md:=[1000041,1000042,1000047,1000051,1000052]) Tryz.func100 rfl (by kernel_rfl) (n:=54) Tryz.ntmps100 (by simp) (by decide) rfl ?_
  simp
  refine LoopT.round (fun E S=>∃ (i:Nat) (x:Ld),(i≤l.length)∧E 0=some (.d (defsD l))∧E 3=some (x.sv)∧E 4=some (.d (dI i))∧(x.sh=skZ 4 i (rowsZ Def.sz (l.take i)))∧(At S 0 S.nx [x])) (upTo 4 l.length) ⟨0, .nil,by simp;exact⟨by simp[Ld.sh], .cons_nil .nil⟩⟩ ?_
  rintro E S hk ⟨i,x,hi,h0,h3,h4,hX,ha⟩
  have hn:S.n=54:=by first | (simpa using hk.n)|(have hh:=hk.n;simp at hh;exact hh)
  have hg:S.gl=gl:=by first | (simpa using hk.gl)|(have hh:=hk.gl;simp at hh;exact hh)
  have hmd:S.md=[1000041,1000042,1000047,1000051,1000052]:=by first | (simpa using hk.md)|(have hh:=hk.md;simp at hh;exact hh)
  simp[h0,h3,h4,hn,hg,hmd]
  have w:=wrap64 (n:=(i:Int)+1) (by omega) (by omega)
  obtain⟨o1,o2,o3⟩:=z_one hX
  refine BrT.dec (fun c=>?_) (fun c=>?_)
  · have hi2:i<l.length:=by omega
    have hlen:=defs_len l
    have hfit:i*4+4≤l.length*4:=by omega
    have hat:=defs_at l hi2
    have hvn:=rowsZ_next Def.sz l hi2
    obtain⟨⟨hfl,hfs⟩,hwl⟩:=hs _ (List.getElem_mem hi2)
    generalize l[i]=a at hat hvn hfl hfs hwl
    obtain⟨dname,kind,fs,words⟩:=a
    simp only at hfl hfs hwl
    simp only[Def.cells] at hat
    have hat_2:=row_get hat 2 (by decide) rfl
    have hat_2'':=(List.getElem?_eq_some_iff.1 hat_2).2
    have hat_2':i*4+2<_:=Nat.lt_of_lt_of_le (by omega) hfit
    have o12:=h4
    obtain⟨N0,hN0⟩:∃ N0,S.nx=N0:=⟨_,rfl⟩
    obtain⟨v,hv⟩:∃ v,S.nx+4+4=v:=⟨_,rfl⟩
    simp[h0,h3,h4,hn,hg,hmd,c,hat_2,hat_2',hat_2'',hi2,w,hlen,hfit,hat,o1,o2]
    simp only[hv]
    refine LoopT.round (fun E S=>∃ (j:Nat) (y:Ld),(j≤fs.length)∧E 0=some (.d (defsD l))∧E 3=some (x.sv)∧E 4=some (.d (dI i))∧E 5=some (.op v 0)∧E 6=some (.d (dI j))∧S.B v=some ([.d (dS dname), .d (dI kind),y.sv, .d (namesD words)])∧(At S 0 N0 [x])∧(y.sh=skZ 5 j (rowsZ Fld.sz (fs.take j)))∧(At S (N0+9) S.nx [y])∧(N0+14≤S.nx)) (upTo 6 fs.length) ⟨0, .nil,by simp[h0,h3,h4,hn,hg,hmd,c,hat_2,hat_2',hat_2'',hi2,w,hlen,hfit,hat,o1,o2];exact⟨At.keep (hi:=N0) (hN0▸ha) fun b h1 h2=>(by ((try simp);(repeat first | rw[if_neg (by omega)] | rw[if_pos (by omega)]);(try (intro h;exfalso;omega));(try (intro _;(repeat first | rw[if_neg (by omega)] | rw[if_pos (by omega)]))))),by simp[Ld.sh], .cons_nil .nil,by omega⟩⟩ ?_
    rintro E S hk ⟨j,y,hj,h0,h3,h4,h5,h6,hBv,ha,hY,hb,hx⟩
    have hn:S.n=54:=by first | (simpa using hk.n)|(have hh:=hk.n;simp[h0,h3,h4,hn,hg,hmd,c,hat_2,hat_2',hat_2'',hi2,w,hlen,hfit,hat,o1,o2] at hh;exact hh)
    have hg:S.gl=gl:=by first | (simpa using hk.gl)|(have hh:=hk.gl;simp[h0,h3,h4,hn,hg,hmd,c,hat_2,hat_2',hat_2'',hi2,w,hlen,hfit,hat,o1,o2] at hh;exact hh)
    have hmd:S.md=[1000041,1000042,1000047,1000051,1000052]:=by first | (simpa using hk.md)|(have hh:=hk.md;simp[h0,h3,h4,hn,hg,hmd,c,hat_2,hat_2',hat_2'',hi2,w,hlen,hfit,hat,o1,o2] at hh;exact hh)
    simp[h0,h3,h4,hn,hg,hmd,c,hat_2,hat_2',hat_2'',hi2,w,hlen,hfit,hat,o1,o2,h0,h3,h4,h5,h6,hBv,hn,hg,hmd]
    have w2:=wrap64 (n:=(j:Int)+1) (by omega) (by omega)
    obtain⟨p1,p2,p3⟩:=z_one hY
    refine BrT.dec (fun c2=>?_) (fun c2=>?_)
    · have hj2:j<fs.length:=by omega
      have flen:=flds_len fs
      have ffit:j*5+5≤fs.length*5:=by omega
      have fat:=flds_at fs hj2
      have fvn:=rowsZ_next Fld.sz fs hj2
      obtain⟨fty1,fal,fas⟩:=hfs _ (List.getElem_mem hj2)
      generalize fs[j]=f at fat fvn fty1 fal fas
      have g1:=g_l9Field (gl:=gl) f fty1 fal fas
      have fcl:=fcells_len f
      simp[h0,h3,h4,hn,hg,hmd,c,hat_2,hat_2',hat_2'',hi2,w,hlen,hfit,hat,o1,o2,h0,h3,h4,h5,h6,hBv,hn,hg,hmd,p1,p2,c2,hj2,w2,flen,ffit,fat,fcl]
      refine⟨DrawT.mk (by kernel_rfl),?_⟩
      refine CallT.o (n:=40) [((1,5),10)] (g1) (by first | rfl | (simp;done)|(simp[h0,h3,h4,hn,hg,hmd,c,hat_2,hat_2',hat_2'',hi2,w,hlen,hfit,hat,o1,o2,h0,h3,h4,h5,h6,hBv,hn,hg,hmd,p1,p2,c2,hj2,w2,flen,ffit,fat,fcl];done)) (by kernel_rfl) (by kernel_rfl) (by first | (simp[Eh.e];done)|(simp[h0,h3,h4,hn,hg,hmd,c,hat_2,hat_2',hat_2'',hi2,w,hlen,hfit,hat,o1,o2,h0,h3,h4,h5,h6,hBv,hn,hg,hmd,p1,p2,c2,hj2,w2,flen,ffit,fat,fcl,Eh.e];done)|(simp[h0,h3,h4,hn,hg,hmd,c,hat_2,hat_2',hat_2'',hi2,w,hlen,hfit,hat,o1,o2,h0,h3,h4,h5,h6,hBv,hn,hg,hmd,p1,p2,c2,hj2,w2,flen,ffit,fat,fcl,Eh.e];omega)) (by first | (simp[Ar.a];done)|(simp[Ar.a];omega)) (fun B' hB'=>by first | rfl | (simp;done)|(simp[hB'];done)|(simp[h0,h3,h4,hn,hg,hmd,c,hat_2,hat_2',hat_2'',hi2,w,hlen,hfit,hat,o1,o2,h0,h3,h4,h5,h6,hBv,hn,hg,hmd,p1,p2,c2,hj2,w2,flen,ffit,fat,fcl,hB'];done)) ?_
      simp[h0,h3,h4,hn,hg,hmd,c,hat_2,hat_2',hat_2'',hi2,w,hlen,hfit,hat,o1,o2,h0,h3,h4,h5,h6,hBv,hn,hg,hmd,p1,p2,c2,hj2,w2,flen,ffit,fat,fcl]
      obtain⟨K1,hK1⟩:∃ K1,cntL f.sz=K1:=⟨_,rfl⟩
      obtain⟨q1,hq1⟩:∃ q1,S.nx+8+15=q1:=⟨_,rfl⟩
      have hfl5:∀ m,(svs (canL m f.sz)).length=5:=fun m=>by simp
      simp only[hK1,hq1]
      have v1:v<q1:=by omega
      have v3:∀ a,¬ v=S.nx+a:=fun a=>by omega
      have v4:∀ a,¬ S.nx+a=v:=fun a=>by omega
      have v5:∀ a b,¬ v=S.nx+a+b:=fun a b=>by omega
      have v6:∀ a b,¬ S.nx+a+b=v:=fun a b=>by omega
      rcases ld_z hY with ⟨rfl,z0⟩ | ⟨b',cs,rfl,hsc,hpos⟩
      · simp[h0,h3,h4,hn,hg,hmd,c,hat_2,hat_2',hat_2'',hi2,w,hlen,hfit,hat,o1,o2,h0,h3,h4,h5,h6,hBv,hn,hg,hmd,p1,p2,c2,hj2,w2,flen,ffit,fat,fcl,hq1,v1,v3,v4,v5,v6]
        refine⟨by unfold appBound;omega,⟨j+1,hj2,by omega, .row (some 5) (S.nx+8+12) 1 (canL q1 f.sz),rfl,?_,?_,?_,by omega⟩,upTo_lt h6 (by simp) hj2⟩
        · exact ha.keep fun b h1 h2=>by ((try simp);(repeat first | rw[if_neg (by omega)] | rw[if_pos (by omega)]);(try (intro h;exfalso;omega));(try (intro _;(repeat first | rw[if_neg (by omega)] | rw[if_pos (by omega)]))))
        · subst z0
          exact row_sh (by rw[canL_shs,fvn];simp[rowsZ]) (by omega)
        · refine .row (by simp[v6]) (by omega) (by omega) ((hK1▸At.new (q:=q1) (cs:=f.sz) ?_:At _ q1 (q1+K1) _).le (by omega) (by omega)) (fun p hp=>by have:=canL_rng hp;omega)
          intro b h1 h2;(((try simp);(repeat first | rw[if_neg (by omega)] | rw[if_pos (by omega)]);(try (intro h;exfalso;omega));(try (intro _;(repeat first | rw[if_neg (by omega)] | rw[if_pos (by omega)])))));simp only[hq1]
      · have hb2:=hb.rng (b',svs cs) (by simp[varsL,Ld.vars])
        have hBb:=hb.has (b',svs cs) (by simp[varsL,Ld.vars])
        have hA:(svs cs).length=j*5:=by rw[svs_len, ← shs_len,hsc,rowsZ_len fld_szlen,List.length_take];congr 1;omega
        simp only at hb2 hBb
        have hlt:b'<q1:=by omega
        have htk:List.take (j*5) (svs cs)=svs cs:=List.take_of_length_le (by omega)
        have nv:¬ v=b':=by omega
        have nv2:¬ b'=v:=by omega
        simp[h0,h3,h4,hn,hg,hmd,c,hat_2,hat_2',hat_2'',hi2,w,hlen,hfit,hat,o1,o2,h0,h3,h4,h5,h6,hBv,hn,hg,hmd,p1,p2,c2,hj2,w2,flen,ffit,fat,fcl,hq1,v1,v3,v4,v5,v6,hBb,hA,hlt,htk,nv,nv2]
        refine⟨by unfold appBound;omega,⟨j+1,hj2,by omega, .row (some 5) (S.nx+8+12) (j+1) (cs++canL q1 f.sz),rfl,?_,?_,?_,by omega⟩,upTo_lt h6 (by simp) hj2⟩
        · exact ha.keep fun b h1 h2=>by ((try simp);(repeat first | rw[if_neg (by omega)] | rw[if_pos (by omega)]);(try (intro h;exfalso;omega));(try (intro _;(repeat first | rw[if_neg (by omega)] | rw[if_pos (by omega)]))))
        · exact row_sh (by rw[shs_app,canL_shs,fvn,hsc]) (by omega)
        · refine hb.grow (lo2:=q1) (hi':=q1+K1+3) ((hK1▸At.new (q:=q1) (cs:=f.sz) ?_:At _ q1 (q1+K1) _).le (Nat.le_refl _) (by omega)) (by simp[v6]) ?_ (by omega) (by omega) (by omega) (by omega) (fun p hp=>by have:=canL_rng hp;omega) (by omega)
          · intro x h1 h2 h3;((try simp);(repeat first | rw[if_neg (by omega)] | rw[if_pos (by omega)]);(try (intro h;exfalso;omega));(try (intro _;(repeat first | rw[if_neg (by omega)] | rw[if_pos (by omega)]))))
          · intro b h1 h2;(((try simp);(repeat first | rw[if_neg (by omega)] | rw[if_pos (by omega)]);(try (intro h;exfalso;omega));(try (intro _;(repeat first | rw[if_neg (by omega)] | rw[if_pos (by omega)])))));simp only[hq1]
    · have hj3:j=fs.length:=by omega
      subst hj3
      rw[List.take_length] at hY
      have v3:∀ a,¬ v=S.nx+a:=fun a=>by omega
      have v4:∀ a,¬ S.nx+a=v:=fun a=>by omega
      have v5:∀ a b,¬ v=S.nx+a+b:=fun a b=>by omega
      have v6:∀ a b,¬ S.nx+a+b=v:=fun a b=>by omega
      have e5:(ldT words).map Ld.sv=(words.map dS).map .d:=ldT_svs words
      by_cases hw0:words=[]
      · subst hw0
        simp[h0,h3,h4,hn,hg,hmd,c,hat_2,hat_2',hat_2'',hi2,w,hlen,hfit,hat,o1,o2,h0,h3,h4,h5,h6,hBv,hn,hg,hmd,p1,p2,c2,v3,v4,v5,v6,p3]
        obtain⟨N,hN⟩:∃ N:List Ld,N=.d (.string dname)::.d (.int .i64 kind)::[y, .nil]:=⟨_,rfl⟩
        have hNs:svs N=[.d (dS dname), .d (dI kind),y.sv,(.nil:Ld).sv]:=by rw[hN];simp
        have hNh:shs N=Def.sz ⟨dname,kind,fs,[]⟩:=by
          rw[hN];simp only[shs,Def.sz,hY,Ld.sh]
          rfl
        have hNa:∀ S':St,(∀ b,N0+9≤b→b<S.nx→S'.B b=S.B b)→True→At S' (N0+9) (S.nx+14) N:=fun S' h1 _=>by
          rw[hN]
          exact .cons_d (.cons_d (.app (a:=[y]) (mid:=S.nx) (hb.keep h1) (.cons_nil .nil) (by omega) (by omega)))
        have hNr:∀ p∈varsL N,p.1≠S.nx+8+6+3:=fun p hp=>by
          rw[hN] at hp
          simp only[varsL,Ld.vars,List.nil_append,List.mem_append,List.append_nil,List.mem_cons,ldT_vars] at hp
          have:=(hb.rng p (by simpa[varsL] using hp)).2;omega
        rcases ld_z hX with ⟨rfl,z0⟩ | ⟨b',cs,rfl,hsc,hpos⟩
        · simp[h0,h3,h4,hn,hg,hmd,c,hat_2,hat_2',hat_2'',hi2,w,hlen,hfit,hat,o1,o2,h0,h3,h4,h5,h6,hBv,hn,hg,hmd,p1,p2,c2,v3,v4,v5,v6,p3]
          refine⟨by unfold appBound;omega,⟨i+1,hi2, .row (some 4) (S.nx+8+6+3) 1 N,by rw[Ld.sv_row];rfl,by omega,?_,?_⟩,upTo_lt o12 (by simp) hi2⟩
          · subst z0
            exact row_sh (by rw[hNh,hvn];simp[rowsZ]) (by omega)
          · refine .row (by rw[hNs];simp[v6]) (by omega) (by omega) ((hNa _ ?_ trivial).le (by omega) (by omega)) hNr
            · intro b h1 h2;((try simp);(repeat first | rw[if_neg (by omega)] | rw[if_pos (by omega)]);(try (intro h;exfalso;omega));(try (intro _;(repeat first | rw[if_neg (by omega)] | rw[if_pos (by omega)]))))
        · have hb2:=ha.rng (b',svs cs) (by simp[varsL,Ld.vars])
          have hBb:=ha.has (b',svs cs) (by simp[varsL,Ld.vars])
          have hA:(svs cs).length=i*4:=by rw[svs_len, ← shs_len,hsc,rowsZ_len def_szlen,List.length_take];congr 1;omega
          simp only at hb2 hBb
          have htk:List.take (i*4) (svs cs)=svs cs:=List.take_of_length_le (by omega)
          have nv:¬ v=b':=by omega
          have nv2:¬ b'=v:=by omega
          have nv3:∀ a,¬ b'=S.nx+a:=fun a=>by omega
          have nv4:∀ a b,¬ b'=S.nx+a+b:=fun a b=>by omega
          simp[h0,h3,h4,hn,hg,hmd,c,hat_2,hat_2',hat_2'',hi2,w,hlen,hfit,hat,o1,o2,h0,h3,h4,h5,h6,hBv,hn,hg,hmd,p1,p2,c2,v3,v4,v5,v6,p3,hBb,hA,htk,nv,nv2,nv3,nv4]
          refine⟨by unfold appBound;omega,⟨i+1,hi2, .row (some 4) (S.nx+8+6+3) (i+1) (cs++N),by rw[Ld.sv_row];rfl,by omega,?_,?_⟩,upTo_lt o12 (by simp) hi2⟩
          · exact row_sh (by rw[shs_app,hNh,hvn,hsc]) (by omega)
          · refine ha.grow (lo2:=N0+9) (hi':=S.nx+8+6+5+3) ((hNa _ ?_ trivial).le (Nat.le_refl _) (by omega)) (by rw[svs_app,hNs];simp[v6]) ?_ (by omega) (by omega) (by omega) (by omega) hNr (by omega)
            · intro b h1 h2;((try simp);(repeat first | rw[if_neg (by omega)] | rw[if_pos (by omega)]);(try (intro h;exfalso;omega));(try (intro _;(repeat first | rw[if_neg (by omega)] | rw[if_pos (by omega)]))))
            · intro x h1 h2 h3;((try simp);(repeat first | rw[if_neg (by omega)] | rw[if_pos (by omega)]);(try (intro h;exfalso;omega));(try (intro _;(repeat first | rw[if_neg (by omega)] | rw[if_pos (by omega)]))))
      · have hw1:words.length≠0:=fun e=>hw0 (List.eq_nil_of_length_eq_zero e)
        simp[h0,h3,h4,hn,hg,hmd,c,hat_2,hat_2',hat_2'',hi2,w,hlen,hfit,hat,o1,o2,h0,h3,h4,h5,h6,hBv,hn,hg,hmd,p1,p2,c2,v3,v4,v5,v6,p3,hw1]
        refine⟨by unfold appBound;omega,?_⟩
        obtain⟨N,hN⟩:∃ N:List Ld,N=.d (.string dname)::.d (.int .i64 kind)::[y, .row (some 1) (S.nx+8+3) words.length (ldT words)]:=⟨_,rfl⟩
        have hNs:svs N=[.d (dS dname), .d (dI kind),y.sv,(.row (some 1) (S.nx+8+3) words.length (ldT words):Ld).sv]:=by rw[hN];simp
        have hNh:shs N=Def.sz ⟨dname,kind,fs,words⟩:=by
          rw[hN];simp only[shs,Def.sz,hY,Ld.sh]
          have:=row_sh (z:=1) (b:=S.nx+8+3) (n:=words.length) (ldT_sh words) hw1;simp only[Ld.sh] at this;rw[this];rfl
        have hNa:∀ S':St,(∀ b,N0+9≤b→b<S.nx→S'.B b=S.B b)→S'.B (S.nx+8+3)=some (svs (ldT words))→At S' (N0+9) (S.nx+14) N:=fun S' h1 h2=>by
          rw[hN]
          exact .cons_d (.cons_d (.app (a:=[y]) (mid:=S.nx) (hb.keep h1) (.row h2 (by omega) (by omega) (ldT_at words) (by rw[ldT_vars];simp)) (by omega) (by omega)))
        have hNr:∀ p∈varsL N,p.1≠S.nx+8+6+3:=fun p hp=>by
          rw[hN] at hp
          simp only[varsL,Ld.vars,List.nil_append,List.mem_append,List.append_nil,List.mem_cons,ldT_vars] at hp
          rcases hp with hp | hp
          · have:=(hb.rng p (by simpa[varsL] using hp)).2;omega
          · rcases hp with rfl | hp
            · simp
            · simp at hp
        rcases ld_z hX with ⟨rfl,z0⟩ | ⟨b',cs,rfl,hsc,hpos⟩
        · simp[h0,h3,h4,hn,hg,hmd,c,hat_2,hat_2',hat_2'',hi2,w,hlen,hfit,hat,o1,o2,h0,h3,h4,h5,h6,hBv,hn,hg,hmd,p1,p2,c2,v3,v4,v5,v6,p3,hw1]
          refine⟨by unfold appBound;omega,⟨i+1,hi2, .row (some 4) (S.nx+8+6+3) 1 N,by rw[Ld.sv_row];rfl,by omega,?_,?_⟩,upTo_lt o12 (by simp) hi2⟩
          · subst z0
            exact row_sh (by rw[hNh,hvn];simp[rowsZ]) (by omega)
          · refine .row (by rw[hNs];simp[v6]) (by omega) (by omega) ((hNa _ ?_ ?_).le (by omega) (by omega)) hNr
            · intro b h1 h2;((try simp);(repeat first | rw[if_neg (by omega)] | rw[if_pos (by omega)]);(try (intro h;exfalso;omega));(try (intro _;(repeat first | rw[if_neg (by omega)] | rw[if_pos (by omega)]))))
            · (((try simp);(repeat first | rw[if_neg (by omega)] | rw[if_pos (by omega)]);(try (intro h;exfalso;omega));(try (intro _;(repeat first | rw[if_neg (by omega)] | rw[if_pos (by omega)])))));first | (simp[svs];done) | exact⟨by omega,by simp[svs]⟩
        · have hb2:=ha.rng (b',svs cs) (by simp[varsL,Ld.vars])
          have hBb:=ha.has (b',svs cs) (by simp[varsL,Ld.vars])
          have hA:(svs cs).length=i*4:=by rw[svs_len, ← shs_len,hsc,rowsZ_len def_szlen,List.length_take];congr 1;omega
          simp only at hb2 hBb
          have htk:List.take (i*4) (svs cs)=svs cs:=List.take_of_length_le (by omega)
          have nv:¬ v=b':=by omega
          have nv2:¬ b'=v:=by omega
          have nv3:∀ a,¬ b'=S.nx+a:=fun a=>by omega
          have nv4:∀ a b,¬ b'=S.nx+a+b:=fun a b=>by omega
          simp[h0,h3,h4,hn,hg,hmd,c,hat_2,hat_2',hat_2'',hi2,w,hlen,hfit,hat,o1,o2,h0,h3,h4,h5,h6,hBv,hn,hg,hmd,p1,p2,c2,v3,v4,v5,v6,p3,hw1,hBb,hA,htk,nv,nv2,nv3,nv4]
          refine⟨by unfold appBound;omega,⟨i+1,hi2, .row (some 4) (S.nx+8+6+3) (i+1) (cs++N),by rw[Ld.sv_row];rfl,by omega,?_,?_⟩,upTo_lt o12 (by simp) hi2⟩
          · exact row_sh (by rw[shs_app,hNh,hvn,hsc]) (by omega)
          · refine ha.grow (lo2:=N0+9) (hi':=S.nx+8+6+5+3) ((hNa _ ?_ ?_).le (Nat.le_refl _) (by omega)) (by rw[svs_app,hNs];simp[v6]) ?_ (by omega) (by omega) (by omega) (by omega) hNr (by omega)
            · intro b h1 h2;((try simp);(repeat first | rw[if_neg (by omega)] | rw[if_pos (by omega)]);(try (intro h;exfalso;omega));(try (intro _;(repeat first | rw[if_neg (by omega)] | rw[if_pos (by omega)]))))
            · (((try simp);(repeat first | rw[if_neg (by omega)] | rw[if_pos (by omega)]);(try (intro h;exfalso;omega));(try (intro _;(repeat first | rw[if_neg (by omega)] | rw[if_pos (by omega)])))));first | (simp[svs];done) | exact⟨by omega,by simp[svs]⟩
            · intro x h1 h2 h3;((try simp);(repeat first | rw[if_neg (by omega)] | rw[if_pos (by omega)]);(try (intro h;exfalso;omega));(try (intro _;(repeat first | rw[if_neg (by omega)] | rw[if_pos (by omega)]))))
  · have hi3:i=l.length:=by omega
    subst hi3
    rw[List.take_length] at hX
    simp[h0,h3,h4,hn,hg,hmd,c,o1,o2,o3]
    exact fin_1 (ha.keep fun b h1 h2=>by ((try simp);(repeat first | rw[if_neg (by omega)] | rw[if_pos (by omega)]);(try (intro h;exfalso;omega));(try (intro _;(repeat first | rw[if_neg (by omega)] | rw[if_pos (by omega)]))))) hX rfl
abbrev defsF (gl:Nat→Option D) (f:Nat) (ds:List D) (R:List Def×Bool):Prop:=FCall Tryz.prog gl f ds (.tu [((skDefs R.1).can 0).sv, .d (dB R.2)]) (cntL [skDefs R.1]) (newL [skDefs R.1])
@[simp] theorem skDefs_one (l:List Def) (k:Nat):((skDefs l).can k).sv.one=true:=skZ_one _ _ _ _
@[simp] theorem skDefs_cells (l:List Def) (k:Nat):((skDefs l).can k).sv.cells=[((skDefs l).can k).sv]:=skZ_cells _ _ _ _
theorem vct_gen {t:Bool}{P:Program}{c:Cd}{E:Env}{S:St}{K:Exit→Env→St→Prop}{Q:St→Prop} (hQ:Q S) (h:∀ S',Q S'→@VCt t P c E S' K):@VCt t P c E S K:=h S hQ
theorem at_one {S':St}{q hi:Nat}{x:Sk} (hh:q+cntL [x]≤hi) (h:∀ b,q≤b→b<q+cntL [x]→S'.B b=(newL [x] (b - q)).map (·.map (SV.shift q))):At S' q hi [x.can q]:=by
  have:=(At.new h).le (Nat.le_refl _) hh
  simpa[canL] using this
set_option maxHeartbeats 4000000 in
theorem gz_SchemaWords (hcl:gl cleanAt≠none) (l:List Def) (nm w:ByteArray) (hl:l.length≤1048576) (hsm:∀ d∈l,DefSm d) (hw:w.size≤1048576):defsF gl 32 [defsD l,dS nm,dS w] (moreR nm w l):=by
  have hC:=gz_schemaMore hcl l nm w hl hsm hw
  generalize moreR nm w l=R at hC
  refine FCall.by_ (md:=[]) Tryz.func32 rfl (by kernel_rfl) (n:=14) Tryz.ntmps32 (by simp) (by decide) rfl ?_
  simp
  repeat refine⟨DrawT.mk (by kernel_rfl),?_⟩
  refine CallT.f (n:=40) (hC) (by first | rfl | (simp;done)|(simp;done)) (by first | rfl | kernel_rfl) (by first | rfl | (simp;done)|(simp;done)) ?_
  simp
  exact fin_tu (x:=(skDefs R.1).can 11) (at_one (Nat.le_refl _) (fun b h1 h2=>by ((try simp);(repeat first | rw[if_neg (by omega)] | rw[if_pos (by omega)]);(try (intro h;exfalso;omega));(try (intro _;(repeat first | rw[if_neg (by omega)] | rw[if_pos (by omega)])))))) (can_sh _ _) rfl
def wordR (nm w:ByteArray) (l:List Def):List Def×Bool:=if checkB l=0 then wordS nm w l else ([],false)
set_option maxHeartbeats 8000000 in
theorem g_spSchemaWords (l:List Def) (nm w:ByteArray) (hl:l.length≤1048576) (hsm:∀ d∈l,DefSm d) (hw:w.size≤1048576):defsF gl 31 [defsD l,dS nm,dS w] (wordR nm w l):=by
  have hC:=p_spCheck (gl:=gl) l hl hsm
  have hA:=p_l2At (gl:=gl) l nm (by omega)
  refine FCall.by_ (md:=[1000038,1000039]) Tryz.func31 rfl (by kernel_rfl) (n:=48) Tryz.ntmps31 (by simp) (by decide) rfl ?_
  simp
  repeat refine⟨DrawT.mk (by kernel_rfl),?_⟩
  refine CallT.p0 (hC) (by first | rfl | (simp;done)|(simp;done)) (by first | rfl | (simp;done)|(simp;rfl)|(simp;done)) ?_
  simp
  refine BrT.dec (fun c=>?_) (fun c=>?_)
  · have hR:wordR nm w l=wordS nm w l:=if_pos c
    rw[hR]
    have hl0:l.length≠0:=fun e=>check_ne c (List.eq_nil_of_length_eq_zero e)
    have hcp:=g_l9Copy (gl:=gl) l hl fun d hd=>⟨⟨(hsm d hd).2.1.1,fun f hf=>⟨((hsm d hd).2.1.2 f hf).2.2,((hsm d hd).2.1.2 f hf).2.1.1,fun x hx=>⟨(((hsm d hd).2.1.2 f hf).2.1.2 x hx).2.1,(((hsm d hd).2.1.2 f hf).2.1.2 x hx).2.2⟩⟩⟩,(hsm d hd).2.2.1⟩
    have hsk:skDefs l=.row (some 4) l.length (rowsZ Def.sz l):=skZ_pos hl0
    rw[hsk] at hcp
    simp[c,shift_sk]
    repeat refine⟨DrawT.mk (by kernel_rfl),?_⟩
    refine CallT.f (n:=40) (hcp) (by first | rfl | (simp;done)|(simp[c,shift_sk];done)) (by first | rfl | kernel_rfl) (by first | rfl | (simp;done)|(simp[c,shift_sk];done)) ?_
    simp[c,shift_sk]
    repeat refine⟨DrawT.mk (by kernel_rfl),?_⟩
    refine CallT.p0 (hA) (by first | rfl | (simp;done)|(simp[c,shift_sk];done)) (by first | rfl | (simp;done)|(simp;rfl)|(simp[c,shift_sk];done)) ?_
    simp[c,shift_sk]
    obtain⟨K0,hK0⟩:∃ K0,cntL [Sk.row (some 4) l.length (rowsZ Def.sz l)]=K0:=⟨_,rfl⟩
    simp only[hK0]
    have e0:(SV.tu [SV.sk 0 l.length 4, .d (dB false)])=.tu [((Sk.row (some 4) l.length (rowsZ Def.sz l)).can 0).sv, .d (.v (.bool false))]:=by simp[Sk.can]
    cases ha:atD l nm with
    | none =>
      have hz:atZ l nm = -1:=by unfold atZ;rw[ha]
      have hw':wordS nm w l=(l,false):=by unfold wordS;rw[ha]
      rw[hw']
      simp only[hsk]
      simp[c,shift_sk,hz]
      rw[e0]
      exact fin_tu (x:=.row (some 4) 8 l.length (canL 9 (rowsZ Def.sz l))) (at_row hK0 (Nat.le_refl _) (fun b h1 h2=>by ((try simp);(repeat first | rw[if_neg (by omega)] | rw[if_pos (by omega)]);(try (intro h;exfalso;omega));(try (intro _;(repeat first | rw[if_neg (by omega)] | rw[if_pos (by omega)])))))) (by simp[Ld.sh,canL_shs]) rfl
    | some k =>
      obtain⟨hk,hnm⟩:=at_mem ha
      have hz:atZ l nm=k:=by unfold atZ;rw[ha]
      have hW:wordS nm w l=if l[k].kind=2 then if checkB (l.set k (addW w l[k]))=0 then (l.set k (addW w l[k]),true) else (l,false) else (l,false):=by unfold wordS;rw[ha];simp only[dif_pos hk]
      have hlen:=defs_len l
      have hfit:k*4+4≤l.length*4:=by omega
      have hat:=defs_at l hk
      simp only[Def.cells] at hat
      have hat_1:=row_get hat 1 (by decide) rfl
      have hat_1'':=(List.getElem?_eq_some_iff.1 hat_1).2
      have hat_1':k*4+1<_:=Nat.lt_of_lt_of_le (by omega) hfit
      have k0:¬ ((k:Int)<0):=by omega
      simp[c,shift_sk,hat_1,hat_1',hat_1'',hz,hk,hlen,hfit,k0]
      refine BrT.dec (fun c2=>?_) (fun c2=>?_)
      · rw[if_pos c2] at hW
        obtain⟨done,X,Y,rest,hcs,hdl,hsd2,hX,hY,hsr⟩:=defs_split (canL_shs 9 (rowsZ Def.sz l)) hk
        have hrX:X.rowish=true:=by rcases ld_z hX with ⟨rfl,_⟩ | ⟨_,_,rfl,_⟩<;>rfl
        obtain⟨ds2,hds2⟩:∃ ds2,l.set k (addW w l[k])=ds2:=⟨_,rfl⟩
        rw[hds2] at hW
        have hlen2:ds2.length=l.length:=by rw[← hds2];simp
        have hwl:=(def_one ((check_once c).2.2 _ (List.getElem_mem hk)) (hsm _ (List.getElem_mem hk))).2
        have hsd3:∀ d∈ds2,DefSm d:=fun d hd=>by
          rw[← hds2] at hd
          rcases List.mem_or_eq_of_mem_set hd with hd | rfl
          · exact hsm d hd
          · have s1:=hsm _ (List.getElem_mem hk)
            refine⟨s1.1,s1.2.1,?_,fun s hs=>?_⟩
            · simp only[addW,List.length_append,List.length_singleton];omega
            · simp only[addW,List.mem_append,List.mem_singleton] at hs
              rcases hs with hs | rfl
              · exact s1.2.2.2 s hs
              · exact hw
        have hsk2:skDefs ds2=.row (some 4) ds2.length (rowsZ Def.sz ds2):=skZ_pos (by omega)
        have hA4:(svs done).length=k*4:=by rw[svs_len,hdl]
        have gj:∀ (j:Nat) (L:List SV),(svs done++L)[k*4+j]?=L[j]?:=fun j L=>by rw[← hA4,List.getElem?_append_right (by omega),Nat.add_sub_cancel_left]
        have tj:∀ j L,List.take (k*4+j) (svs done++L)=svs done++L.take j:=fun j L=>by rw[← hA4,List.take_length_add_append]
        have dj2:∀ j m L,List.drop (k*4+j+m) (svs done++L)=L.drop (j+m):=fun j m L=>by rw[Nat.add_assoc, ← hA4,List.drop_length_add_append]
        have hcells:∀ Z:Ld,svs (done++(.d (.string l[k].name)::.d (.int .i64 l[k].kind)::X::Z::rest))=svs done++(.d (dS l[k].name)::.d (dI l[k].kind)::X.sv::Z.sv::svs rest):=fun Z=>by simp
        have hY':Y.sh=skZ 1 l[k].words.length (txK l[k].words):=hY
        refine vct_gen (Q:=fun S=>S.n=48∧S.gl=gl∧S.md=[1000038,1000039]∧At S 8 S.nx [.row (some 4) 8 l.length (done++(.d (.string l[k].name)::.d (.int .i64 l[k].kind)::X::Y::rest))]) ⟨?_,?_,?_,?_⟩ (fun S hQ=>?_)
        · simp
        · simp
        · simp
        · rw[← hcs]
          exact at_row hK0 (by first | (simp;done)|(simp;omega)) (fun b h1 h2=>by ((try simp);(repeat first | rw[if_neg (by omega)] | rw[if_pos (by omega)]);(try (intro h;exfalso;omega));(try (intro _;(repeat first | rw[if_neg (by omega)] | rw[if_pos (by omega)])))))
        obtain⟨n1,g1,m1,hat8⟩:=hQ
        show @VCt true _ ⟨.skip⟩ _ _ _
        have hB8:=hat8.cells
        rw[hcells] at hB8
        have h8:8<S.nx:=(hat8.rng (8,svs (done++(.d (.string l[k].name)::.d (.int .i64 l[k].kind)::X::Y::rest))) (by simp[varsL,Ld.vars])).2
        have nb:∀ a,¬ 8=S.nx+a:=fun a=>by omega
        have nb2:∀ a,¬ S.nx+a=8:=fun a=>by omega
        have hlt:k<ds2.length:=by omega
        rcases ld_z hY' with ⟨rfl,z0⟩ | ⟨v,cs,rfl,hsc,hpos⟩
        · simp[c,shift_sk,hat_1,hat_1',hat_1'',hz,hk,hlen,hfit,k0,c2,n1,g1,m1,hB8,gj,tj,dj2,hA4,nb,nb2]
          refine⟨by unfold appBound;omega,by omega,?_⟩
          refine CallT_gen (Q:=fun S'=>S'.n=48∧S'.gl=gl∧∃ Y2:Ld,Y2.sh=skT (l[k].words++[w])∧At S' 8 S'.nx [.row (some 4) 8 l.length (done++(.d (.string l[k].name)::.d (.int .i64 l[k].kind)::X::Y2::rest))]) ⟨by simpa using n1,by simpa using g1, .row (some 1) (S.nx+9) 1 [.d (.string w)],?_,?_⟩ (fun S2 hQ2=>?_)
          · have e:=List.eq_nil_of_length_eq_zero z0
            rw[e,skT]
            exact row_sh (by simp[shs,Ld.sh]) (by omega)
          · refine at_word hat8 (by rw[hcells];simp[c2]) (fun x h1 h2 h3 h4=>?_) (.row (by simp[nb2]) (by omega) (by first | (simp;done)|(simp;omega)) (.cons_d .nil) (by simp[varsL,Ld.vars])) (by first | (simp;done)|(simp;omega))
            have e:¬ x=S.nx+9:=by omega
            simp[e,h3]
          obtain⟨n2,g2,Y2,hY2,hat2⟩:=hQ2
          have e1:(Ld.row (some 4) 8 l.length (done++(.d (.string l[k].name)::.d (.int .i64 l[k].kind)::X::Y2::rest))).sh=skDefs ds2:=by
            rw[hsk2,hlen2, ← hds2,defs_put hk]
            simp only[Ld.sh,shs_app,hsd2]
            simp[shs,Ld.sh,Def.sz,addW,hX,hY2,hsr]
          have hfz:∀ (S':St) (hi':Nat),At S' 8 hi' [.row (some 4) 8 l.length (done++(.d (.string l[k].name)::.d (.int .i64 l[k].kind)::X::Y2::rest))]→mapO (frz S'.B (depL [skDefs ds2]+1)) [.sk 8 l.length 4]=some [defsD ds2]:=fun S' hi' h=>by
            have:=(h.frz (k:=depL [skDefs ds2]+1) (by simp only[shs,e1];omega)).1
            simp only[shs,e1,dataL,skDefs_data,svs_cons,svs_nil,Ld.sv_row,rowV_some] at this
            exact this
          refine CallT.l (LCall.ofP (k:=depL [skDefs ds2]+1) (p_spCheck (gl:=S2.gl) ds2 (by omega) hsd3) (hfz _ S2.nx hat2)) rfl ?_
          simp[c,shift_sk,hat_1,hat_1',hat_1'',hz,hk,hlen,hfit,k0,c2,n1,g1,m1,hB8,gj,tj,dj2,hA4,nb,nb2,n2,g2]
          refine BrT.dec (fun c3=>?_) (fun c3=>?_)
          · rw[if_pos c3] at hW
            rw[hW]
            simp only[hsk2]
            simp[c,shift_sk,hat_1,hat_1',hat_1'',hz,hk,hlen,hfit,k0,c2,n1,g1,m1,hB8,gj,tj,dj2,hA4,nb,nb2,n2,g2,c3]
            have e9:(SV.tu [SV.sk 0 ds2.length 4, .d (dB true)])=.tu [((Sk.row (some 4) ds2.length (rowsZ Def.sz ds2)).can 0).sv, .d (.v (.bool true))]:=by simp[Sk.can]
            rw[e9]
            exact fin_tu (x:=.row (some 4) 8 l.length (done++(.d (.string l[k].name)::.d (.int .i64 l[k].kind)::X::Y2::rest))) ((hat2.le (Nat.le_refl _) (Nat.le_refl _)).mono rfl) (by rw[e1,hsk2]) rfl
          · rw[if_neg c3] at hW
            rw[hW]
            simp only[hsk]
            simp[c,shift_sk,hat_1,hat_1',hat_1'',hz,hk,hlen,hfit,k0,c2,n1,g1,m1,hB8,gj,tj,dj2,hA4,nb,nb2,n2,g2,c3]
            repeat refine⟨DrawT.mk (by kernel_rfl),?_⟩
            refine CallT.f (n:=40) (hcp) (by first | rfl | (simp;done)|(simp[c,shift_sk,hat_1,hat_1',hat_1'',hz,hk,hlen,hfit,k0,c2,n1,g1,m1,hB8,gj,tj,dj2,hA4,nb,nb2,n2,g2,c3];done)) (by first | rfl | kernel_rfl) (by first | rfl | (simp;done)|(simp[c,shift_sk,hat_1,hat_1',hat_1'',hz,hk,hlen,hfit,k0,c2,n1,g1,m1,hB8,gj,tj,dj2,hA4,nb,nb2,n2,g2,c3];done)) ?_
            simp[c,shift_sk,hat_1,hat_1',hat_1'',hz,hk,hlen,hfit,k0,c2,n1,g1,m1,hB8,gj,tj,dj2,hA4,nb,nb2,n2,g2,c3]
            rw[e0]
            exact fin_tu (x:=.row (some 4) (S2.nx+4) l.length (canL (S2.nx+4+1) (rowsZ Def.sz l))) (at_row rfl (Nat.le_refl _) (fun b h1 h2=>by ((try simp);(repeat first | rw[if_neg (by omega)] | rw[if_pos (by omega)]);(try (intro h;exfalso;omega));(try (intro _;(repeat first | rw[if_neg (by omega)] | rw[if_pos (by omega)])))))) (by simp[Ld.sh,canL_shs]) rfl
        · have hv:=hat8.has (v,svs cs) (by simp[varsL,Ld.vars,varsL_app])
          have hvr:=hat8.rng (v,svs cs) (by simp[varsL,Ld.vars,varsL_app])
          have hvb:v≠8:=fun e=>by
            have:=hat8.nodup
            simp only[varsL,Ld.vars,varsL_app,List.append_nil,List.nil_append,List.map_cons,List.map_append,List.nodup_cons,List.mem_append,List.mem_cons,not_or] at this
            exact this.1.2.2.1.1 e.symm
          simp only at hv hvr
          have hcs5:cs=ldT l[k].words:=ld_texts hsc
          subst hcs5
          have hl5:(svs (ldT l[k].words)).length=l[k].words.length:=by simp
          have htk:List.take l[k].words.length (svs (ldT l[k].words))=svs (ldT l[k].words):=List.take_of_length_le (by omega)
          have nv:∀ a,¬ v=S.nx+a:=fun a=>by omega
          have nv2:∀ a,¬ S.nx+a=v:=fun a=>by omega
          have nvb:¬ v=8:=hvb
          have nbv:¬ 8=v:=fun e=>hvb e.symm
          simp[c,shift_sk,hat_1,hat_1',hat_1'',hz,hk,hlen,hfit,k0,c2,n1,g1,m1,hB8,gj,tj,dj2,hA4,nb,nb2,hv,hl5,htk,nv,nv2,nvb,nbv]
          refine⟨by unfold appBound;omega,by omega,?_⟩
          refine CallT_gen (Q:=fun S'=>S'.n=48∧S'.gl=gl∧∃ Y2:Ld,Y2.sh=skT (l[k].words++[w])∧At S' 8 S'.nx [.row (some 4) 8 l.length (done++(.d (.string l[k].name)::.d (.int .i64 l[k].kind)::X::Y2::rest))]) ⟨by simpa using n1,by simpa using g1, .row (some 1) (S.nx+9) (l[k].words.length+1) (ldT (l[k].words++[w])),?_,?_⟩ (fun S2 hQ2=>?_)
          · have:=row_sh (z:=1) (b:=S.nx+9) (n:=l[k].words.length+1) (ldT_sh (l[k].words++[w])) (by omega)
            rw[this,skT];simp
          · refine at_word hat8 (by rw[hcells];simp[c2]) (fun x h1 h2 h3 h4=>?_) (.row (by simp[nb2,svs]) (by omega) (by first | (simp;done)|(simp;omega)) (ldT_at _) (by rw[ldT_vars];simp)) (by first | (simp;done)|(simp;omega))
            have e:¬ x=S.nx+9:=by omega
            have e3:¬ x=v:=fun e=>h4 (by simp[Ld.vars,e])
            simp[e,h3,e3]
          obtain⟨n2,g2,Y2,hY2,hat2⟩:=hQ2
          have e1:(Ld.row (some 4) 8 l.length (done++(.d (.string l[k].name)::.d (.int .i64 l[k].kind)::X::Y2::rest))).sh=skDefs ds2:=by
            rw[hsk2,hlen2, ← hds2,defs_put hk]
            simp only[Ld.sh,shs_app,hsd2]
            simp[shs,Ld.sh,Def.sz,addW,hX,hY2,hsr]
          have hfz:∀ (S':St) (hi':Nat),At S' 8 hi' [.row (some 4) 8 l.length (done++(.d (.string l[k].name)::.d (.int .i64 l[k].kind)::X::Y2::rest))]→mapO (frz S'.B (depL [skDefs ds2]+1)) [.sk 8 l.length 4]=some [defsD ds2]:=fun S' hi' h=>by
            have:=(h.frz (k:=depL [skDefs ds2]+1) (by simp only[shs,e1];omega)).1
            simp only[shs,e1,dataL,skDefs_data,svs_cons,svs_nil,Ld.sv_row,rowV_some] at this
            exact this
          refine CallT.l (LCall.ofP (k:=depL [skDefs ds2]+1) (p_spCheck (gl:=S2.gl) ds2 (by omega) hsd3) (hfz _ S2.nx hat2)) rfl ?_
          simp[c,shift_sk,hat_1,hat_1',hat_1'',hz,hk,hlen,hfit,k0,c2,n1,g1,m1,hB8,gj,tj,dj2,hA4,nb,nb2,hv,hl5,htk,nv,nv2,nvb,nbv,n2,g2]
          refine BrT.dec (fun c3=>?_) (fun c3=>?_)
          · rw[if_pos c3] at hW
            rw[hW]
            simp only[hsk2]
            simp[c,shift_sk,hat_1,hat_1',hat_1'',hz,hk,hlen,hfit,k0,c2,n1,g1,m1,hB8,gj,tj,dj2,hA4,nb,nb2,hv,hl5,htk,nv,nv2,nvb,nbv,n2,g2,c3]
            have e9:(SV.tu [SV.sk 0 ds2.length 4, .d (dB true)])=.tu [((Sk.row (some 4) ds2.length (rowsZ Def.sz ds2)).can 0).sv, .d (.v (.bool true))]:=by simp[Sk.can]
            rw[e9]
            exact fin_tu (x:=.row (some 4) 8 l.length (done++(.d (.string l[k].name)::.d (.int .i64 l[k].kind)::X::Y2::rest))) ((hat2.le (Nat.le_refl _) (Nat.le_refl _)).mono rfl) (by rw[e1,hsk2]) rfl
          · rw[if_neg c3] at hW
            rw[hW]
            simp only[hsk]
            simp[c,shift_sk,hat_1,hat_1',hat_1'',hz,hk,hlen,hfit,k0,c2,n1,g1,m1,hB8,gj,tj,dj2,hA4,nb,nb2,hv,hl5,htk,nv,nv2,nvb,nbv,n2,g2,c3]
            repeat refine⟨DrawT.mk (by kernel_rfl),?_⟩
            refine CallT.f (n:=40) (hcp) (by first | rfl | (simp;done)|(simp[c,shift_sk,hat_1,hat_1',hat_1'',hz,hk,hlen,hfit,k0,c2,n1,g1,m1,hB8,gj,tj,dj2,hA4,nb,nb2,hv,hl5,htk,nv,nv2,nvb,nbv,n2,g2,c3];done)) (by first | rfl | kernel_rfl) (by first | rfl | (simp;done)|(simp[c,shift_sk,hat_1,hat_1',hat_1'',hz,hk,hlen,hfit,k0,c2,n1,g1,m1,hB8,gj,tj,dj2,hA4,nb,nb2,hv,hl5,htk,nv,nv2,nvb,nbv,n2,g2,c3];done)) ?_
            simp[c,shift_sk,hat_1,hat_1',hat_1'',hz,hk,hlen,hfit,k0,c2,n1,g1,m1,hB8,gj,tj,dj2,hA4,nb,nb2,hv,hl5,htk,nv,nv2,nvb,nbv,n2,g2,c3]
            rw[e0]
            exact fin_tu (x:=.row (some 4) (S2.nx+4) l.length (canL (S2.nx+4+1) (rowsZ Def.sz l))) (at_row rfl (Nat.le_refl _) (fun b h1 h2=>by ((try simp);(repeat first | rw[if_neg (by omega)] | rw[if_pos (by omega)]);(try (intro h;exfalso;omega));(try (intro _;(repeat first | rw[if_neg (by omega)] | rw[if_pos (by omega)])))))) (by simp[Ld.sh,canL_shs]) rfl
      · rw[if_neg c2] at hW
        rw[hW]
        simp only[hsk]
        simp[c,shift_sk,hat_1,hat_1',hat_1'',hz,hk,hlen,hfit,k0,c2]
        rw[e0]
        exact fin_tu (x:=.row (some 4) 8 l.length (canL 9 (rowsZ Def.sz l))) (at_row hK0 (Nat.le_refl _) (fun b h1 h2=>by ((try simp);(repeat first | rw[if_neg (by omega)] | rw[if_pos (by omega)]);(try (intro h;exfalso;omega));(try (intro _;(repeat first | rw[if_neg (by omega)] | rw[if_pos (by omega)])))))) (by simp[Ld.sh,canL_shs]) rfl
  · have hR:wordR nm w l=([],false):=if_neg c
    rw[hR]
    simp[c]
    exact fin_tu (x:=.nil) (sk:=skDefs []) ((At.cons_nil .nil:At _ 0 0 _)) rfl rfl
theorem vals_cell (l:List Val) {i j:Nat} (hi:i<l.length) (hj:j<5):(valsCells l)[i*5+j]?=l[i].cells[j]?:=by
  have h:=congrArg (fun x=>x[j]?) (valsCells_at l hi)
  simp only[List.getElem?_take,List.getElem?_drop] at h
  rw[if_pos hj] at h
  exact h
theorem vals_cell0 (l:List Val) {i:Nat} (hi:i<l.length):(valsCells l)[i*5]?=l[i].cells[0]?:=vals_cell l (j:=0) hi (by omega)
set_option maxHeartbeats 4000000 in
theorem p_heldValueS (l:List Val) (n:Nat) (h1:1≤n) (hn:n+cntVs l≤1073741824):PCall Tryz.prog gl 149 [valsD (markVs l n),dI n] (dI ((n+cntVs l:Nat):Int)):=by
  have hlen:=cntVs_len l
  refine PCall.by_ (md:=[]) Tryz.func149 rfl (by kernel_rfl) (n:=59) Tryz.ntmps149 (by simp) (by decide) rfl ?_
  simp
  refine LoopT.round (fun E S=>∃ (i:Nat) (q:Nat),(i≤l.length)∧E 0=some (.d (valsD (markVs l n)))∧E 1=some (.d (dI q))∧E 5=some (.d (dI i))∧((markVs l n).drop i=markVs (l.drop i) q)∧(q+cntVs (l.drop i)=n+cntVs l)) (upTo 5 l.length) ⟨0,n,by simp⟩ ?_
  rintro E S hk ⟨i,q,hi,h0,h1,h5,hm,hq⟩
  have hn:S.n=59:=by first | (simpa using hk.n)|(have hh:=hk.n;simp at hh;exact hh)
  have hg:S.gl=gl:=by first | (simpa using hk.gl)|(have hh:=hk.gl;simp at hh;exact hh)
  have hmd:S.md=[]:=by first | (simpa using hk.md)|(have hh:=hk.md;simp at hh;exact hh)
  simp[h0,h1,h5,hn,hg,hmd]
  have w:=wrap64 (n:=(i:Int)+1) (by omega) (by omega)
  have hml:=markVs_len l n
  refine BrT.dec (fun c=>?_) (fun c=>?_)
  · have hi2:i<l.length:=by omega
    have hi3:i<(markVs l n).length:=by omega
    rw[List.drop_eq_getElem_cons hi2,List.drop_eq_getElem_cons hi3,markVs] at hm
    rw[List.drop_eq_getElem_cons hi2] at hq
    obtain⟨hm1,hm2⟩:=List.cons.inj hm
    have f0:=vals_cell0 (markVs l n) hi3
    have f1:=vals_cell (markVs l n) (j:=1) hi3 (by omega)
    have f2:=vals_cell (markVs l n) (j:=2) hi3 (by omega)
    have f3:=vals_cell (markVs l n) (j:=3) hi3 (by omega)
    have f4:=vals_cell (markVs l n) (j:=4) hi3 (by omega)
    rw[hm1] at f0 f1 f2 f3 f4
    have hmem:=List.getElem_mem hi2
    generalize l[i]=v at hm1 hm2 hq f0 f1 f2 f3 f4 hmem
    cases v with
    | mk k m t lv ns =>
    have hlv:SizeOf.sizeOf lv<SizeOf.sizeOf l:=by have:=List.sizeOf_lt_of_mem hmem;simp only[Val.mk.sizeOf_spec] at this;omega
    simp only[cntVs,cntV] at hq
    simp only[markV,Val.cells,List.getElem?_cons_zero,List.getElem?_cons_succ] at f0 f1 f2 f3 f4
    have wq1:=wrap64 (n:=(q:Int)+1) (by omega) (by omega)
    have wq2:=wrap64 (n:=(q:Int)+1+1) (by omega) (by omega)
    have wq3:=wrap64 (n:=(q:Int)+1+1+1) (by omega) (by omega)
    simp[h0,h1,h5,hn,hg,hmd,c,hi2,w,hml,f0,f1,f2,f3,f4,wq1,wq2,wq3]
    repeat refine⟨DrawT.mk (by kernel_rfl),?_⟩
    refine CallT.p0 (p_markText (q+2) (by omega) (by omega)) (by first | rfl | (simp;done)|(simp[h0,h1,h5,hn,hg,hmd,c,hi2,w,hml,f0,f1,f2,f3,f4,wq1,wq2,wq3];done)) (by first | rfl | (simp;done)|(simp;rfl)|(simp[h0,h1,h5,hn,hg,hmd,c,hi2,w,hml,f0,f1,f2,f3,f4,wq1,wq2,wq3];done)) ?_
    simp[h0,h1,h5,hn,hg,hmd,c,hi2,w,hml,f0,f1,f2,f3,f4,wq1,wq2,wq3]
    repeat refine⟨DrawT.mk (by kernel_rfl),?_⟩
    refine CallT.p0 (p_heldValueS lv (q+3) (by omega) (by omega)) (by first | rfl | (simp;done)|(simp[h0,h1,h5,hn,hg,hmd,c,hi2,w,hml,f0,f1,f2,f3,f4,wq1,wq2,wq3];done)) (by first | rfl | (simp;done)|(simp;rfl)|(simp[h0,h1,h5,hn,hg,hmd,c,hi2,w,hml,f0,f1,f2,f3,f4,wq1,wq2,wq3];done)) ?_
    simp[h0,h1,h5,hn,hg,hmd,c,hi2,w,hml,f0,f1,f2,f3,f4,wq1,wq2,wq3]
    have wq4:¬ ((q:Int)+3+cntVs lv<0):=by omega
    simp[h0,h1,h5,hn,hg,hmd,c,hi2,w,hml,f0,f1,f2,f3,f4,wq1,wq2,wq3,wq4]
    repeat refine⟨DrawT.mk (by kernel_rfl),?_⟩
    refine CallT.p0 (p_heldStringS (q+3+cntVs lv) ns.length (by omega) (by omega) (by omega)) (by first | rfl | (simp;done)|(simp[h0,h1,h5,hn,hg,hmd,c,hi2,w,hml,f0,f1,f2,f3,f4,wq1,wq2,wq3,wq4];done)) (by first | rfl | (simp;done)|(simp;rfl)|(simp[h0,h1,h5,hn,hg,hmd,c,hi2,w,hml,f0,f1,f2,f3,f4,wq1,wq2,wq3,wq4];done)) ?_
    simp[h0,h1,h5,hn,hg,hmd,c,hi2,w,hml,f0,f1,f2,f3,f4,wq1,wq2,wq3,wq4]
    have wq5:¬ ((q:Int)+3+cntVs lv+ns.length<0):=by omega
    simp[h0,h1,h5,hn,hg,hmd,c,hi2,w,hml,f0,f1,f2,f3,f4,wq1,wq2,wq3,wq4,wq5]
    exact⟨⟨i+1,hi2,q+(3+cntVs lv+ns.length),by omega,by omega,hm2,by omega⟩,upTo_lt h5 (by simp) hi2⟩
  · simp[h0,h1,h5,hn,hg,hmd,c]
    rw[List.drop_eq_nil_of_le (by omega),cntVs] at hq
    omega
  termination_by SizeOf.sizeOf l
abbrev mkB (q:Nat):Bool:=decide (q % 3=0)
mutual
def cntT:Typ→Nat
  | .mk _ l _=>2+cntTs l
def cntTs:List Typ→Nat
  | []=>0
  | v::r=>cntT v+cntTs r
end
mutual
def markTy:Typ→Nat→Typ
  | .mk _ l _,q=>.mk (markT q) (markTys l (q+1)) (mkB (q+1+cntTs l))
def markTys:List Typ→Nat→List Typ
  | [],_=>[]
  | v::r,q=>markTy v q::markTys r (q+cntT v)
end
theorem markTys_len:∀ (l:List Typ) (q:Nat),(markTys l q).length=l.length
  | [],q=>by simp[markTys]
  | v::r,q=>by simp[markTys,markTys_len r]
def cntR {α:Type} (c:α→Nat):List α→Nat
  | []=>0
  | v::r=>c v+cntR c r
def markR {α:Type} (f:α→Nat→α) (c:α→Nat):List α→Nat→List α
  | [],_=>[]
  | v::r,q=>f v q::markR f c r (q+c v)
theorem markR_len {α:Type} (f:α→Nat→α) (c:α→Nat):∀ (l:List α) (q:Nat),(markR f c l q).length=l.length
  | [],_=>rfl
  | v::r,q=>by simp[markR,markR_len f c r]
def cntA (a:Arg):Nat:=2+cntT a.ty+cntV a.els
def markA (a:Arg) (q:Nat):Arg:=⟨markT q,markTy a.ty (q+1),mkB (q+1+cntT a.ty),markV a.els (q+2+cntT a.ty)⟩
def cntF (a:Fld):Nat:=1+cntR cntA a.args+cntT a.ty
def markF (a:Fld) (q:Nat):Fld:=⟨markT q,markR markA cntA a.args (q+1),markTy a.ty (q+1+cntR cntA a.args)⟩
def cntDf (a:Def):Nat:=2+cntR cntF a.flds+a.words.length
def markDf (a:Def) (q:Nat):Def:=⟨markT q,((q+1:Nat):Int),markR markF cntF a.flds (q+2),marks (q+2+cntR cntF a.flds) a.words.length⟩
theorem skR_mk (e:Bool) (n:Nat) (cs:List Sk) (q:Nat):(skR e n cs).mk q=skR e n (mkS cs q):=by
  unfold skR;split<;>simp[Sk.mk]
theorem texts_mk (l:List ByteArray) (q:Nat):mkS (l.map fun s=>Sk.d (.string s)) q=(marks q l.length).map fun s=>Sk.d (.string s):=by
  have h:=congrArg shs (mkL_texts l q)
  rw[mkL_sh,ldT_sh,ldT_sh] at h
  exact h
theorem skS_mk (e:Bool) (l:List ByteArray) (q:Nat):(skS e l).mk q=skS e (marks q l.length):=by
  unfold skS;rw[skR_mk,texts_mk,marks_len]
theorem val_mk (e:Bool) (v:Val) (q:Nat):mkS (v.sk e) q=(markV v q).sk e:=by
  have h1:=canL_shs 0 (v.sk e)
  have h2:=(markLd_sh (e:=e) v (canL 0 (v.sk e)) q h1).1
  rw[markLd_mk v _ q h1,mkL_sh,h1] at h2
  exact h2
theorem rows_mk {α:Type}{f:α→List Sk}{m:α→Nat→α}{c:α→Nat} (h:∀ x q,mkS (f x) q=f (m x q)) (hc:∀ x,leafL (f x)=c x):∀ (l:List α) (q:Nat),mkS (l.flatMap f) q=(markR m c l q).flatMap f∧leafL (l.flatMap f)=cntR c l
  | [],q=>⟨by simp[mkS,markR],by simp[leafL,cntR]⟩
  | x::r,q=>by
    obtain⟨a,b⟩:=rows_mk h hc r (q+c x)
    simp only[List.flatMap_cons,mkS_app,leafL_app,markR,cntR,h,hc,a,b,and_self]
mutual
theorem typ_mk (e:Bool):∀ (v:Typ) (q:Nat),mkS (v.sk e) q=(markTy v q).sk e∧leafL (v.sk e)=cntT v
  | .mk t l b,q=>by
    obtain⟨h1,h2⟩:=typs_mk e l (q+1)
    have h3:(skR e l.length (typsSk e l)).leaf=cntTs l:=by rw[leaf_skR e (fun h=>by rw[List.eq_nil_of_length_eq_zero h];simp[typsSk]),h2]
    constructor
    · simp only[Typ.sk,mkS,Sk.mk,mkV,skR_mk,h1,markTy,markTys_len,Sk.leaf,h3]
    · simp only[Typ.sk,leafL,Sk.leaf,h3,cntT];omega
theorem typs_mk (e:Bool):∀ (l:List Typ) (q:Nat),mkS (typsSk e l) q=typsSk e (markTys l q)∧leafL (typsSk e l)=cntTs l
  | [],q=>by simp[typsSk,mkS,markTys,leafL,cntTs]
  | v::r,q=>by
    obtain⟨a1,a2⟩:=typ_mk e v q
    obtain⟨b1,b2⟩:=typs_mk e r (q+cntT v)
    simp only[typsSk,mkS_app,leafL_app,markTys,cntTs,a1,a2,b1,b2,and_self]
end
theorem arg_mk (e:Bool) (a:Arg) (q:Nat):mkS (a.sk e) q=(markA a q).sk e∧leafL (a.sk e)=cntA a:=by
  obtain⟨h1,h2⟩:=typ_mk e a.ty (q+1)
  constructor
  · have e:q+1+cntT a.ty+1=q+2+cntT a.ty:=by omega
    simp only[Arg.sk,mkS,Sk.mk,mkV,mkS_app,h1,h2,Sk.leaf,markA,val_mk,e]
  · simp only[Arg.sk,leafL,leafL_app,Sk.leaf,h2,leaf_val,cntA];omega
theorem fld_mk (e:Bool) (a:Fld) (q:Nat):mkS (a.sk e) q=(markF a q).sk e∧leafL (a.sk e)=cntF a:=by
  obtain⟨g1,g2⟩:=rows_mk (m:=markA) (c:=cntA) (fun x q=>(arg_mk e x q).1) (fun x=>(arg_mk e x 0).2) a.args (q+1)
  obtain⟨h1,h2⟩:=typ_mk e a.ty (q+1+cntR cntA a.args)
  have h3:(skR e a.args.length (argsSk e a.args)).leaf=cntR cntA a.args:=by rw[leaf_skR e (fun h=>by rw[List.eq_nil_of_length_eq_zero h];simp[argsSk])];exact g2
  have g1':mkS (argsSk e a.args) (q+1)=argsSk e (markR markA cntA a.args (q+1)):=g1
  constructor
  · simp only[Fld.sk,mkS,Sk.mk,mkV,skR_mk,h3,Sk.leaf,markF,g1',h1,markR_len]
  · simp only[Fld.sk,leafL,Sk.leaf,h3,h2,cntF];omega
theorem def_mk (e:Bool) (a:Def) (q:Nat):mkS (a.sk e) q=(markDf a q).sk e∧leafL (a.sk e)=cntDf a:=by
  obtain⟨g1,g2⟩:=rows_mk (m:=markF) (c:=cntF) (fun x q=>(fld_mk e x q).1) (fun x=>(fld_mk e x 0).2) a.flds (q+2)
  have h3:(skR e a.flds.length (fldsSk e a.flds)).leaf=cntR cntF a.flds:=by rw[leaf_skR e (fun h=>by rw[List.eq_nil_of_length_eq_zero h];simp[fldsSk])];exact g2
  have g1':mkS (fldsSk e a.flds) (q+2)=fldsSk e (markR markF cntF a.flds (q+2)):=g1
  constructor
  · simp only[Def.sk,mkS,Sk.mk,mkV,skR_mk,skS_mk,h3,Sk.leaf,markDf,Nat.add_assoc,Nat.reduceAdd,markR_len,Nat.add_assoc]
    rw[g1']
  · simp only[Def.sk,leafL,Sk.leaf,h3,leaf_skS,cntDf];omega
theorem defs_mk (e:Bool) (l:List Def) (q:Nat):mkS (defsSk e l) q=defsSk e (markR markDf cntDf l q)∧leafL (defsSk e l)=cntR cntDf l :=
  rows_mk (fun x q=>(def_mk e x q).1) (fun x=>(def_mk e x 0).2) l q
theorem defs_mkdata (e:Bool) (l:List Def) (q:Nat):((skR e l.length (defsSk e l)).mk q).data=defsD (markR markDf cntDf l q):=by
  rw[skR_mk,(defs_mk e l q).1]
  have:=defsSk_row e (markR markDf cntDf l q)
  rw[markR_len] at this
  exact this
theorem cntTs_len:∀ l:List Typ,l.length≤cntTs l
  | []=>Nat.le_refl _
  | v::r=>by
    have:=cntTs_len r
    cases v with
    | mk t l b=>simp only[List.length_cons,cntTs,cntT];omega
theorem cntR_len {α:Type}{c:α→Nat} (h:∀ x,1≤c x):∀ l:List α,l.length≤cntR c l
  | []=>Nat.le_refl _
  | v::r=>by
    have:=cntR_len h r
    have:=h v
    simp only[List.length_cons,cntR];omega
theorem cntA_pos (a:Arg):1≤cntA a:=by unfold cntA;omega
theorem cntF_pos (a:Fld):1≤cntF a:=by unfold cntF;omega
theorem cntDf_pos (a:Def):1≤cntDf a:=by unfold cntDf;omega
set_option maxHeartbeats 8000000 in
theorem p_heldTypeS (l:List Typ) (n:Nat) (h1:1≤n) (hn:n+cntTs l≤1073741824):PCall Tryz.prog gl 197 [typsD (markTys l n),dI n] (dI ((n+cntTs l:Nat):Int)):=by
  have hlen:=cntTs_len l
  refine PCall.by_ (md:=[]) Tryz.func197 rfl (by kernel_rfl) (n:=43) Tryz.ntmps197 (by simp) (by decide) rfl ?_
  simp
  refine LoopT.round (fun E S=>∃ (i:Nat) (q:Nat),(i≤l.length)∧E 0=some (.d (typsD (markTys l n)))∧E 1=some (.d (dI q))∧E 5=some (.d (dI i))∧((markTys l n).drop i=markTys (l.drop i) q)∧(q+cntTs (l.drop i)=n+cntTs l)∧(n≤q)) (upTo 5 l.length) ⟨0,n,by simp⟩ ?_
  rintro E S hk ⟨i,q,hi,h0,h1,h5,hm,hq,hnq⟩
  have hn:S.n=43:=by first | (simpa using hk.n)|(have hh:=hk.n;simp at hh;exact hh)
  have hg:S.gl=gl:=by first | (simpa using hk.gl)|(have hh:=hk.gl;simp at hh;exact hh)
  have hmd:S.md=[]:=by first | (simpa using hk.md)|(have hh:=hk.md;simp at hh;exact hh)
  simp[h0,h1,h5,hn,hg,hmd]
  have w:=wrap64 (n:=(i:Int)+1) (by omega) (by omega)
  have hml:(markTys l n).length=l.length:=markTys_len l n
  refine BrT.dec (fun c=>?_) (fun c=>?_)
  · have hi2:i<l.length:=by omega
    have hi3:i<(markTys l n).length:=by omega
    rw[List.drop_eq_getElem_cons hi2,List.drop_eq_getElem_cons hi3,markTys] at hm
    rw[List.drop_eq_getElem_cons hi2,cntTs] at hq
    obtain⟨hm1,hm2⟩:=List.cons.inj hm
    have hat:=typsCells_at (markTys l n) hi3
    have hcl:=typsCells_len (markTys l n)
    have hfit:i*3+3≤(markTys l n).length*3:=by omega
    rw[hm1] at hat
    have hmem:=List.getElem_mem hi2
    generalize l[i]=v at hm1 hm2 hq hat hmem
    cases v with
    | mk t lv b =>
    have hlv:SizeOf.sizeOf lv<SizeOf.sizeOf l:=by have:=List.sizeOf_lt_of_mem hmem;simp only[Typ.mk.sizeOf_spec] at this;omega
    simp only[markTy,Typ.cells] at hat
    simp only[cntT] at hq
    have hat_0:=row_get0 hat (by decide) rfl
    have hat_0'':=(List.getElem?_eq_some_iff.1 hat_0).2
    have hat_0':i*3<_:=Nat.lt_of_lt_of_le (by omega) hfit
    have hat_1:=row_get hat 1 (by decide) rfl
    have hat_1'':=(List.getElem?_eq_some_iff.1 hat_1).2
    have hat_1':i*3+1<_:=Nat.lt_of_lt_of_le (by omega) hfit
    have hat_2:=row_get hat 2 (by decide) rfl
    have hat_2'':=(List.getElem?_eq_some_iff.1 hat_2).2
    have hat_2':i*3+2<_:=Nat.lt_of_lt_of_le (by omega) hfit
    simp[h0,h1,h5,hn,hg,hmd,c,hat_0,hat_0',hat_0'',hat_1,hat_1',hat_1'',hat_2,hat_2',hat_2'',hi2,w,hml,hcl,hfit,hat_0,hat_1,hat_2]
    all_goals (repeat refine⟨by omega,?_⟩)
    repeat refine⟨DrawT.mk (by kernel_rfl),?_⟩
    refine CallT.p0 (p_markText (q) (by omega) (by omega)) (by first | rfl | (simp;done)|(simp[h0,h1,h5,hn,hg,hmd,c,hat_0,hat_0',hat_0'',hat_1,hat_1',hat_1'',hat_2,hat_2',hat_2'',hi2,w,hml,hcl,hfit,hat_0,hat_1,hat_2];done)) (by first | rfl | (simp;done)|(simp;rfl)|(simp[h0,h1,h5,hn,hg,hmd,c,hat_0,hat_0',hat_0'',hat_1,hat_1',hat_1'',hat_2,hat_2',hat_2'',hi2,w,hml,hcl,hfit,hat_0,hat_1,hat_2];done)) ?_
    simp[h0,h1,h5,hn,hg,hmd,c,hat_0,hat_0',hat_0'',hat_1,hat_1',hat_1'',hat_2,hat_2',hat_2'',hi2,w,hml,hcl,hfit,hat_0,hat_1,hat_2]
    have wq1:IntKind.i64.wrap ((q:Int)+1)=(q:Int)+1:=by rw[wrap64 (by omega) (by omega)]<;>omega
    simp[h0,h1,h5,hn,hg,hmd,c,hat_0,hat_0',hat_0'',hat_1,hat_1',hat_1'',hat_2,hat_2',hat_2'',hi2,w,hml,hcl,hfit,hat_0,hat_1,hat_2,wq1]
    all_goals (repeat refine⟨by omega,?_⟩)
    repeat refine⟨DrawT.mk (by kernel_rfl),?_⟩
    refine CallT.p0 (p_heldTypeS lv (q+1) (by omega) (by omega)) (by first | rfl | (simp;done)|(simp[h0,h1,h5,hn,hg,hmd,c,hat_0,hat_0',hat_0'',hat_1,hat_1',hat_1'',hat_2,hat_2',hat_2'',hi2,w,hml,hcl,hfit,hat_0,hat_1,hat_2,wq1];done)) (by first | rfl | (simp;done)|(simp;rfl)|(simp[h0,h1,h5,hn,hg,hmd,c,hat_0,hat_0',hat_0'',hat_1,hat_1',hat_1'',hat_2,hat_2',hat_2'',hi2,w,hml,hcl,hfit,hat_0,hat_1,hat_2,wq1];done)) ?_
    simp[h0,h1,h5,hn,hg,hmd,c,hat_0,hat_0',hat_0'',hat_1,hat_1',hat_1'',hat_2,hat_2',hat_2'',hi2,w,hml,hcl,hfit,hat_0,hat_1,hat_2,wq1]
    have wn2:¬ ((q:Int)+1+((cntTs lv:Nat):Int)<0):=by omega
    have wb3:=mark_bool (m:=q+1+cntTs lv) (z:=(q:Int)+1+((cntTs lv:Nat):Int)) (by omega)
    have wq4:IntKind.i64.wrap ((q:Int)+1+((cntTs lv:Nat):Int)+1)=(q:Int)+1+((cntTs lv:Nat):Int)+1:=by rw[wrap64 (by omega) (by omega)]<;>omega
    simp[h0,h1,h5,hn,hg,hmd,c,hat_0,hat_0',hat_0'',hat_1,hat_1',hat_1'',hat_2,hat_2',hat_2'',hi2,w,hml,hcl,hfit,hat_0,hat_1,hat_2,wq1,wn2,wb3,wq4]
    all_goals (repeat refine⟨by omega,?_⟩)
    exact⟨⟨i+1,hi2,q+(2+cntTs lv),by omega,by omega,hm2,by omega,by omega⟩,upTo_lt h5 (by simp) hi2⟩
  · simp[h0,h1,h5,hn,hg,hmd,c]
    rw[List.drop_eq_nil_of_le (by omega),cntTs] at hq
    omega
  termination_by SizeOf.sizeOf l
set_option maxHeartbeats 8000000 in
theorem p_heldArgS (l:List Arg) (n:Nat) (h1:1≤n) (hn:n+cntR cntA l≤1073741824):PCall Tryz.prog gl 196 [argsD (markR markA cntA l n),dI n] (dI ((n+cntR cntA l:Nat):Int)):=by
  have hlen:=cntR_len cntA_pos l
  refine PCall.by_ (md:=[]) Tryz.func196 rfl (by kernel_rfl) (n:=118) Tryz.ntmps196 (by simp) (by decide) rfl ?_
  simp
  refine LoopT.round (fun E S=>∃ (i:Nat) (q:Nat),(i≤l.length)∧E 0=some (.d (argsD (markR markA cntA l n)))∧E 1=some (.d (dI q))∧E 5=some (.d (dI i))∧((markR markA cntA l n).drop i=markR markA cntA (l.drop i) q)∧(q+cntR cntA (l.drop i)=n+cntR cntA l)∧(n≤q)) (upTo 5 l.length) ⟨0,n,by simp⟩ ?_
  rintro E S hk ⟨i,q,hi,h0,h1,h5,hm,hq,hnq⟩
  have hn:S.n=118:=by first | (simpa using hk.n)|(have hh:=hk.n;simp at hh;exact hh)
  have hg:S.gl=gl:=by first | (simpa using hk.gl)|(have hh:=hk.gl;simp at hh;exact hh)
  have hmd:S.md=[]:=by first | (simpa using hk.md)|(have hh:=hk.md;simp at hh;exact hh)
  simp[h0,h1,h5,hn,hg,hmd]
  have w:=wrap64 (n:=(i:Int)+1) (by omega) (by omega)
  have hml:(markR markA cntA l n).length=l.length:=markR_len _ _ l n
  refine BrT.dec (fun c=>?_) (fun c=>?_)
  · have hi2:i<l.length:=by omega
    have hi3:i<(markR markA cntA l n).length:=by omega
    rw[List.drop_eq_getElem_cons hi2,List.drop_eq_getElem_cons hi3,markR] at hm
    rw[List.drop_eq_getElem_cons hi2,cntR] at hq
    obtain⟨hm1,hm2⟩:=List.cons.inj hm
    have hat:=args_at (markR markA cntA l n) hi3
    have hcl:=args_len (markR markA cntA l n)
    have hfit:i*10+10≤(markR markA cntA l n).length*10:=by omega
    rw[hm1] at hat
    have hmem:=List.getElem_mem hi2
    generalize l[i]=v at hm1 hm2 hq hat hmem
    obtain⟨nm,ty,has,els⟩:=v
    cases ty with
    | mk t lt b =>
    cases els with
    | mk ek en et el ens =>
    simp only[markA,Arg.cells,markTy,Typ.cells,markV,Val.cells,List.cons_append,List.nil_append,cntT,cntV] at hat
    simp only[cntA,cntT,cntV] at hq
    simp only[show q+1+(2+cntTs lt)=q+2+cntTs lt+1 from by omega,show q+2+(2+cntTs lt)=q+2+cntTs lt+2 from by omega,show q+1+1=q+2 from by omega,show q+2+cntTs lt+2+1=q+2+cntTs lt+3 from by omega,show q+2+cntTs lt+2+2=q+2+cntTs lt+4 from by omega,show q+2+cntTs lt+2+3=q+2+cntTs lt+5 from by omega] at hat
    have hat_0:=row_get0 hat (by decide) rfl
    have hat_0'':=(List.getElem?_eq_some_iff.1 hat_0).2
    have hat_0':i*10<_:=Nat.lt_of_lt_of_le (by omega) hfit
    have hat_1:=row_get hat 1 (by decide) rfl
    have hat_1'':=(List.getElem?_eq_some_iff.1 hat_1).2
    have hat_1':i*10+1<_:=Nat.lt_of_lt_of_le (by omega) hfit
    have hat_2:=row_get hat 2 (by decide) rfl
    have hat_2'':=(List.getElem?_eq_some_iff.1 hat_2).2
    have hat_2':i*10+2<_:=Nat.lt_of_lt_of_le (by omega) hfit
    have hat_3:=row_get hat 3 (by decide) rfl
    have hat_3'':=(List.getElem?_eq_some_iff.1 hat_3).2
    have hat_3':i*10+3<_:=Nat.lt_of_lt_of_le (by omega) hfit
    have hat_4:=row_get hat 4 (by decide) rfl
    have hat_4'':=(List.getElem?_eq_some_iff.1 hat_4).2
    have hat_4':i*10+4<_:=Nat.lt_of_lt_of_le (by omega) hfit
    have hat_5:=row_get hat 5 (by decide) rfl
    have hat_5'':=(List.getElem?_eq_some_iff.1 hat_5).2
    have hat_5':i*10+5<_:=Nat.lt_of_lt_of_le (by omega) hfit
    have hat_6:=row_get hat 6 (by decide) rfl
    have hat_6'':=(List.getElem?_eq_some_iff.1 hat_6).2
    have hat_6':i*10+6<_:=Nat.lt_of_lt_of_le (by omega) hfit
    have hat_7:=row_get hat 7 (by decide) rfl
    have hat_7'':=(List.getElem?_eq_some_iff.1 hat_7).2
    have hat_7':i*10+7<_:=Nat.lt_of_lt_of_le (by omega) hfit
    have hat_8:=row_get hat 8 (by decide) rfl
    have hat_8'':=(List.getElem?_eq_some_iff.1 hat_8).2
    have hat_8':i*10+8<_:=Nat.lt_of_lt_of_le (by omega) hfit
    have hat_9:=row_get hat 9 (by decide) rfl
    have hat_9'':=(List.getElem?_eq_some_iff.1 hat_9).2
    have hat_9':i*10+9<_:=Nat.lt_of_lt_of_le (by omega) hfit
    simp[h0,h1,h5,hn,hg,hmd,c,hat_0,hat_0',hat_0'',hat_1,hat_1',hat_1'',hat_2,hat_2',hat_2'',hat_3,hat_3',hat_3'',hat_4,hat_4',hat_4'',hat_5,hat_5',hat_5'',hat_6,hat_6',hat_6'',hat_7,hat_7',hat_7'',hat_8,hat_8',hat_8'',hat_9,hat_9',hat_9'',hi2,w,hml,hcl,hfit,hat_0,hat_1,hat_2,hat_3,hat_4,hat_5,hat_6,hat_7,hat_8,hat_9]
    all_goals (repeat refine⟨by omega,?_⟩)
    repeat refine⟨DrawT.mk (by kernel_rfl),?_⟩
    refine CallT.p0 (p_markText (q) (by omega) (by omega)) (by first | rfl | (simp;done)|(simp[h0,h1,h5,hn,hg,hmd,c,hat_0,hat_0',hat_0'',hat_1,hat_1',hat_1'',hat_2,hat_2',hat_2'',hat_3,hat_3',hat_3'',hat_4,hat_4',hat_4'',hat_5,hat_5',hat_5'',hat_6,hat_6',hat_6'',hat_7,hat_7',hat_7'',hat_8,hat_8',hat_8'',hat_9,hat_9',hat_9'',hi2,w,hml,hcl,hfit,hat_0,hat_1,hat_2,hat_3,hat_4,hat_5,hat_6,hat_7,hat_8,hat_9];done)) (by first | rfl | (simp;done)|(simp;rfl)|(simp[h0,h1,h5,hn,hg,hmd,c,hat_0,hat_0',hat_0'',hat_1,hat_1',hat_1'',hat_2,hat_2',hat_2'',hat_3,hat_3',hat_3'',hat_4,hat_4',hat_4'',hat_5,hat_5',hat_5'',hat_6,hat_6',hat_6'',hat_7,hat_7',hat_7'',hat_8,hat_8',hat_8'',hat_9,hat_9',hat_9'',hi2,w,hml,hcl,hfit,hat_0,hat_1,hat_2,hat_3,hat_4,hat_5,hat_6,hat_7,hat_8,hat_9];done)) ?_
    simp[h0,h1,h5,hn,hg,hmd,c,hat_0,hat_0',hat_0'',hat_1,hat_1',hat_1'',hat_2,hat_2',hat_2'',hat_3,hat_3',hat_3'',hat_4,hat_4',hat_4'',hat_5,hat_5',hat_5'',hat_6,hat_6',hat_6'',hat_7,hat_7',hat_7'',hat_8,hat_8',hat_8'',hat_9,hat_9',hat_9'',hi2,w,hml,hcl,hfit,hat_0,hat_1,hat_2,hat_3,hat_4,hat_5,hat_6,hat_7,hat_8,hat_9]
    have wq1:IntKind.i64.wrap ((q:Int)+1)=(q:Int)+1:=by rw[wrap64 (by omega) (by omega)]<;>omega
    simp[h0,h1,h5,hn,hg,hmd,c,hat_0,hat_0',hat_0'',hat_1,hat_1',hat_1'',hat_2,hat_2',hat_2'',hat_3,hat_3',hat_3'',hat_4,hat_4',hat_4'',hat_5,hat_5',hat_5'',hat_6,hat_6',hat_6'',hat_7,hat_7',hat_7'',hat_8,hat_8',hat_8'',hat_9,hat_9',hat_9'',hi2,w,hml,hcl,hfit,hat_0,hat_1,hat_2,hat_3,hat_4,hat_5,hat_6,hat_7,hat_8,hat_9,wq1]
    all_goals (repeat refine⟨by omega,?_⟩)
    repeat refine⟨DrawT.mk (by kernel_rfl),?_⟩
    refine CallT.p0 (p_markText (q+1) (by omega) (by omega)) (by first | rfl | (simp;done)|(simp[h0,h1,h5,hn,hg,hmd,c,hat_0,hat_0',hat_0'',hat_1,hat_1',hat_1'',hat_2,hat_2',hat_2'',hat_3,hat_3',hat_3'',hat_4,hat_4',hat_4'',hat_5,hat_5',hat_5'',hat_6,hat_6',hat_6'',hat_7,hat_7',hat_7'',hat_8,hat_8',hat_8'',hat_9,hat_9',hat_9'',hi2,w,hml,hcl,hfit,hat_0,hat_1,hat_2,hat_3,hat_4,hat_5,hat_6,hat_7,hat_8,hat_9,wq1];done)) (by first | rfl | (simp;done)|(simp;rfl)|(simp[h0,h1,h5,hn,hg,hmd,c,hat_0,hat_0',hat_0'',hat_1,hat_1',hat_1'',hat_2,hat_2',hat_2'',hat_3,hat_3',hat_3'',hat_4,hat_4',hat_4'',hat_5,hat_5',hat_5'',hat_6,hat_6',hat_6'',hat_7,hat_7',hat_7'',hat_8,hat_8',hat_8'',hat_9,hat_9',hat_9'',hi2,w,hml,hcl,hfit,hat_0,hat_1,hat_2,hat_3,hat_4,hat_5,hat_6,hat_7,hat_8,hat_9,wq1];done)) ?_
    simp[h0,h1,h5,hn,hg,hmd,c,hat_0,hat_0',hat_0'',hat_1,hat_1',hat_1'',hat_2,hat_2',hat_2'',hat_3,hat_3',hat_3'',hat_4,hat_4',hat_4'',hat_5,hat_5',hat_5'',hat_6,hat_6',hat_6'',hat_7,hat_7',hat_7'',hat_8,hat_8',hat_8'',hat_9,hat_9',hat_9'',hi2,w,hml,hcl,hfit,hat_0,hat_1,hat_2,hat_3,hat_4,hat_5,hat_6,hat_7,hat_8,hat_9,wq1]
    have wq2:IntKind.i64.wrap ((q:Int)+1+1)=(q:Int)+2:=by rw[wrap64 (by omega) (by omega)]<;>omega
    simp[h0,h1,h5,hn,hg,hmd,c,hat_0,hat_0',hat_0'',hat_1,hat_1',hat_1'',hat_2,hat_2',hat_2'',hat_3,hat_3',hat_3'',hat_4,hat_4',hat_4'',hat_5,hat_5',hat_5'',hat_6,hat_6',hat_6'',hat_7,hat_7',hat_7'',hat_8,hat_8',hat_8'',hat_9,hat_9',hat_9'',hi2,w,hml,hcl,hfit,hat_0,hat_1,hat_2,hat_3,hat_4,hat_5,hat_6,hat_7,hat_8,hat_9,wq1,wq2]
    all_goals (repeat refine⟨by omega,?_⟩)
    repeat refine⟨DrawT.mk (by kernel_rfl),?_⟩
    refine CallT.p0 (p_heldTypeS lt (q+2) (by omega) (by omega)) (by first | rfl | (simp;done)|(simp[h0,h1,h5,hn,hg,hmd,c,hat_0,hat_0',hat_0'',hat_1,hat_1',hat_1'',hat_2,hat_2',hat_2'',hat_3,hat_3',hat_3'',hat_4,hat_4',hat_4'',hat_5,hat_5',hat_5'',hat_6,hat_6',hat_6'',hat_7,hat_7',hat_7'',hat_8,hat_8',hat_8'',hat_9,hat_9',hat_9'',hi2,w,hml,hcl,hfit,hat_0,hat_1,hat_2,hat_3,hat_4,hat_5,hat_6,hat_7,hat_8,hat_9,wq1,wq2];done)) (by first | rfl | (simp;done)|(simp;rfl)|(simp[h0,h1,h5,hn,hg,hmd,c,hat_0,hat_0',hat_0'',hat_1,hat_1',hat_1'',hat_2,hat_2',hat_2'',hat_3,hat_3',hat_3'',hat_4,hat_4',hat_4'',hat_5,hat_5',hat_5'',hat_6,hat_6',hat_6'',hat_7,hat_7',hat_7'',hat_8,hat_8',hat_8'',hat_9,hat_9',hat_9'',hi2,w,hml,hcl,hfit,hat_0,hat_1,hat_2,hat_3,hat_4,hat_5,hat_6,hat_7,hat_8,hat_9,wq1,wq2];done)) ?_
    simp[h0,h1,h5,hn,hg,hmd,c,hat_0,hat_0',hat_0'',hat_1,hat_1',hat_1'',hat_2,hat_2',hat_2'',hat_3,hat_3',hat_3'',hat_4,hat_4',hat_4'',hat_5,hat_5',hat_5'',hat_6,hat_6',hat_6'',hat_7,hat_7',hat_7'',hat_8,hat_8',hat_8'',hat_9,hat_9',hat_9'',hi2,w,hml,hcl,hfit,hat_0,hat_1,hat_2,hat_3,hat_4,hat_5,hat_6,hat_7,hat_8,hat_9,wq1,wq2]
    have wn3:¬ ((q:Int)+2+((cntTs lt:Nat):Int)<0):=by omega
    have wb4:=mark_bool (m:=q+2+cntTs lt) (z:=(q:Int)+2+((cntTs lt:Nat):Int)) (by omega)
    have wq5:IntKind.i64.wrap ((q:Int)+2+((cntTs lt:Nat):Int)+1)=(q:Int)+2+((cntTs lt:Nat):Int)+1:=by rw[wrap64 (by omega) (by omega)]<;>omega
    have wb6:=mark_bool (m:=q+2+cntTs lt+1) (z:=(q:Int)+2+((cntTs lt:Nat):Int)+1) (by omega)
    have wq7:IntKind.i64.wrap ((q:Int)+2+((cntTs lt:Nat):Int)+1+1)=(q:Int)+2+((cntTs lt:Nat):Int)+2:=by rw[wrap64 (by omega) (by omega)]<;>omega
    have wq8:IntKind.i64.wrap ((q:Int)+2+((cntTs lt:Nat):Int)+2+1)=(q:Int)+2+((cntTs lt:Nat):Int)+3:=by rw[wrap64 (by omega) (by omega)]<;>omega
    have wq9:IntKind.i64.wrap ((q:Int)+2+((cntTs lt:Nat):Int)+3+1)=(q:Int)+2+((cntTs lt:Nat):Int)+4:=by rw[wrap64 (by omega) (by omega)]<;>omega
    simp[h0,h1,h5,hn,hg,hmd,c,hat_0,hat_0',hat_0'',hat_1,hat_1',hat_1'',hat_2,hat_2',hat_2'',hat_3,hat_3',hat_3'',hat_4,hat_4',hat_4'',hat_5,hat_5',hat_5'',hat_6,hat_6',hat_6'',hat_7,hat_7',hat_7'',hat_8,hat_8',hat_8'',hat_9,hat_9',hat_9'',hi2,w,hml,hcl,hfit,hat_0,hat_1,hat_2,hat_3,hat_4,hat_5,hat_6,hat_7,hat_8,hat_9,wq1,wq2,wn3,wb4,wq5,wb6,wq7,wq8,wq9]
    all_goals (repeat refine⟨by omega,?_⟩)
    repeat refine⟨DrawT.mk (by kernel_rfl),?_⟩
    refine CallT.p0 (p_markText (q+2+cntTs lt+4) (by omega) (by omega)) (by first | rfl | (simp;done)|(simp[h0,h1,h5,hn,hg,hmd,c,hat_0,hat_0',hat_0'',hat_1,hat_1',hat_1'',hat_2,hat_2',hat_2'',hat_3,hat_3',hat_3'',hat_4,hat_4',hat_4'',hat_5,hat_5',hat_5'',hat_6,hat_6',hat_6'',hat_7,hat_7',hat_7'',hat_8,hat_8',hat_8'',hat_9,hat_9',hat_9'',hi2,w,hml,hcl,hfit,hat_0,hat_1,hat_2,hat_3,hat_4,hat_5,hat_6,hat_7,hat_8,hat_9,wq1,wq2,wn3,wb4,wq5,wb6,wq7,wq8,wq9];done)) (by first | rfl | (simp;done)|(simp;rfl)|(simp[h0,h1,h5,hn,hg,hmd,c,hat_0,hat_0',hat_0'',hat_1,hat_1',hat_1'',hat_2,hat_2',hat_2'',hat_3,hat_3',hat_3'',hat_4,hat_4',hat_4'',hat_5,hat_5',hat_5'',hat_6,hat_6',hat_6'',hat_7,hat_7',hat_7'',hat_8,hat_8',hat_8'',hat_9,hat_9',hat_9'',hi2,w,hml,hcl,hfit,hat_0,hat_1,hat_2,hat_3,hat_4,hat_5,hat_6,hat_7,hat_8,hat_9,wq1,wq2,wn3,wb4,wq5,wb6,wq7,wq8,wq9];done)) ?_
    simp[h0,h1,h5,hn,hg,hmd,c,hat_0,hat_0',hat_0'',hat_1,hat_1',hat_1'',hat_2,hat_2',hat_2'',hat_3,hat_3',hat_3'',hat_4,hat_4',hat_4'',hat_5,hat_5',hat_5'',hat_6,hat_6',hat_6'',hat_7,hat_7',hat_7'',hat_8,hat_8',hat_8'',hat_9,hat_9',hat_9'',hi2,w,hml,hcl,hfit,hat_0,hat_1,hat_2,hat_3,hat_4,hat_5,hat_6,hat_7,hat_8,hat_9,wq1,wq2,wn3,wb4,wq5,wb6,wq7,wq8,wq9]
    have wq10:IntKind.i64.wrap ((q:Int)+2+((cntTs lt:Nat):Int)+4+1)=(q:Int)+2+((cntTs lt:Nat):Int)+5:=by rw[wrap64 (by omega) (by omega)]<;>omega
    simp[h0,h1,h5,hn,hg,hmd,c,hat_0,hat_0',hat_0'',hat_1,hat_1',hat_1'',hat_2,hat_2',hat_2'',hat_3,hat_3',hat_3'',hat_4,hat_4',hat_4'',hat_5,hat_5',hat_5'',hat_6,hat_6',hat_6'',hat_7,hat_7',hat_7'',hat_8,hat_8',hat_8'',hat_9,hat_9',hat_9'',hi2,w,hml,hcl,hfit,hat_0,hat_1,hat_2,hat_3,hat_4,hat_5,hat_6,hat_7,hat_8,hat_9,wq1,wq2,wn3,wb4,wq5,wb6,wq7,wq8,wq9,wq10]
    all_goals (repeat refine⟨by omega,?_⟩)
    repeat refine⟨DrawT.mk (by kernel_rfl),?_⟩
    refine CallT.p0 (p_heldValueS el (q+2+cntTs lt+5) (by omega) (by omega)) (by first | rfl | (simp;done)|(simp[h0,h1,h5,hn,hg,hmd,c,hat_0,hat_0',hat_0'',hat_1,hat_1',hat_1'',hat_2,hat_2',hat_2'',hat_3,hat_3',hat_3'',hat_4,hat_4',hat_4'',hat_5,hat_5',hat_5'',hat_6,hat_6',hat_6'',hat_7,hat_7',hat_7'',hat_8,hat_8',hat_8'',hat_9,hat_9',hat_9'',hi2,w,hml,hcl,hfit,hat_0,hat_1,hat_2,hat_3,hat_4,hat_5,hat_6,hat_7,hat_8,hat_9,wq1,wq2,wn3,wb4,wq5,wb6,wq7,wq8,wq9,wq10];done)) (by first | rfl | (simp;done)|(simp;rfl)|(simp[h0,h1,h5,hn,hg,hmd,c,hat_0,hat_0',hat_0'',hat_1,hat_1',hat_1'',hat_2,hat_2',hat_2'',hat_3,hat_3',hat_3'',hat_4,hat_4',hat_4'',hat_5,hat_5',hat_5'',hat_6,hat_6',hat_6'',hat_7,hat_7',hat_7'',hat_8,hat_8',hat_8'',hat_9,hat_9',hat_9'',hi2,w,hml,hcl,hfit,hat_0,hat_1,hat_2,hat_3,hat_4,hat_5,hat_6,hat_7,hat_8,hat_9,wq1,wq2,wn3,wb4,wq5,wb6,wq7,wq8,wq9,wq10];done)) ?_
    simp[h0,h1,h5,hn,hg,hmd,c,hat_0,hat_0',hat_0'',hat_1,hat_1',hat_1'',hat_2,hat_2',hat_2'',hat_3,hat_3',hat_3'',hat_4,hat_4',hat_4'',hat_5,hat_5',hat_5'',hat_6,hat_6',hat_6'',hat_7,hat_7',hat_7'',hat_8,hat_8',hat_8'',hat_9,hat_9',hat_9'',hi2,w,hml,hcl,hfit,hat_0,hat_1,hat_2,hat_3,hat_4,hat_5,hat_6,hat_7,hat_8,hat_9,wq1,wq2,wn3,wb4,wq5,wb6,wq7,wq8,wq9,wq10]
    have wn11:¬ ((q:Int)+2+((cntTs lt:Nat):Int)+5+((cntVs el:Nat):Int)<0):=by omega
    simp[h0,h1,h5,hn,hg,hmd,c,hat_0,hat_0',hat_0'',hat_1,hat_1',hat_1'',hat_2,hat_2',hat_2'',hat_3,hat_3',hat_3'',hat_4,hat_4',hat_4'',hat_5,hat_5',hat_5'',hat_6,hat_6',hat_6'',hat_7,hat_7',hat_7'',hat_8,hat_8',hat_8'',hat_9,hat_9',hat_9'',hi2,w,hml,hcl,hfit,hat_0,hat_1,hat_2,hat_3,hat_4,hat_5,hat_6,hat_7,hat_8,hat_9,wq1,wq2,wn3,wb4,wq5,wb6,wq7,wq8,wq9,wq10,wn11]
    all_goals (repeat refine⟨by omega,?_⟩)
    repeat refine⟨DrawT.mk (by kernel_rfl),?_⟩
    refine CallT.p0 (p_heldStringS (q+2+cntTs lt+5+cntVs el) ens.length (by omega) (by omega) (by omega)) (by first | rfl | (simp;done)|(simp[h0,h1,h5,hn,hg,hmd,c,hat_0,hat_0',hat_0'',hat_1,hat_1',hat_1'',hat_2,hat_2',hat_2'',hat_3,hat_3',hat_3'',hat_4,hat_4',hat_4'',hat_5,hat_5',hat_5'',hat_6,hat_6',hat_6'',hat_7,hat_7',hat_7'',hat_8,hat_8',hat_8'',hat_9,hat_9',hat_9'',hi2,w,hml,hcl,hfit,hat_0,hat_1,hat_2,hat_3,hat_4,hat_5,hat_6,hat_7,hat_8,hat_9,wq1,wq2,wn3,wb4,wq5,wb6,wq7,wq8,wq9,wq10,wn11];done)) (by first | rfl | (simp;done)|(simp;rfl)|(simp[h0,h1,h5,hn,hg,hmd,c,hat_0,hat_0',hat_0'',hat_1,hat_1',hat_1'',hat_2,hat_2',hat_2'',hat_3,hat_3',hat_3'',hat_4,hat_4',hat_4'',hat_5,hat_5',hat_5'',hat_6,hat_6',hat_6'',hat_7,hat_7',hat_7'',hat_8,hat_8',hat_8'',hat_9,hat_9',hat_9'',hi2,w,hml,hcl,hfit,hat_0,hat_1,hat_2,hat_3,hat_4,hat_5,hat_6,hat_7,hat_8,hat_9,wq1,wq2,wn3,wb4,wq5,wb6,wq7,wq8,wq9,wq10,wn11];done)) ?_
    simp[h0,h1,h5,hn,hg,hmd,c,hat_0,hat_0',hat_0'',hat_1,hat_1',hat_1'',hat_2,hat_2',hat_2'',hat_3,hat_3',hat_3'',hat_4,hat_4',hat_4'',hat_5,hat_5',hat_5'',hat_6,hat_6',hat_6'',hat_7,hat_7',hat_7'',hat_8,hat_8',hat_8'',hat_9,hat_9',hat_9'',hi2,w,hml,hcl,hfit,hat_0,hat_1,hat_2,hat_3,hat_4,hat_5,hat_6,hat_7,hat_8,hat_9,wq1,wq2,wn3,wb4,wq5,wb6,wq7,wq8,wq9,wq10,wn11]
    have wn12:¬ ((q:Int)+2+((cntTs lt:Nat):Int)+5+((cntVs el:Nat):Int)+((ens.length:Nat):Int)<0):=by omega
    simp[h0,h1,h5,hn,hg,hmd,c,hat_0,hat_0',hat_0'',hat_1,hat_1',hat_1'',hat_2,hat_2',hat_2'',hat_3,hat_3',hat_3'',hat_4,hat_4',hat_4'',hat_5,hat_5',hat_5'',hat_6,hat_6',hat_6'',hat_7,hat_7',hat_7'',hat_8,hat_8',hat_8'',hat_9,hat_9',hat_9'',hi2,w,hml,hcl,hfit,hat_0,hat_1,hat_2,hat_3,hat_4,hat_5,hat_6,hat_7,hat_8,hat_9,wq1,wq2,wn3,wb4,wq5,wb6,wq7,wq8,wq9,wq10,wn11,wn12]
    all_goals (repeat refine⟨by omega,?_⟩)
    exact⟨⟨i+1,hi2,q+(2+(2+cntTs lt)+(3+cntVs el+ens.length)),by omega,by omega,hm2,by omega,by omega⟩,upTo_lt h5 (by simp) hi2⟩
  · simp[h0,h1,h5,hn,hg,hmd,c]
    rw[List.drop_eq_nil_of_le (by omega),cntR] at hq
    omega
set_option maxHeartbeats 8000000 in
theorem p_heldFieldS (l:List Fld) (n:Nat) (h1:1≤n) (hn:n+cntR cntF l≤1073741824):PCall Tryz.prog gl 105 [fldsD (markR markF cntF l n),dI n] (dI ((n+cntR cntF l:Nat):Int)):=by
  have hlen:=cntR_len cntF_pos l
  refine PCall.by_ (md:=[]) Tryz.func105 rfl (by kernel_rfl) (n:=65) Tryz.ntmps105 (by simp) (by decide) rfl ?_
  simp
  refine LoopT.round (fun E S=>∃ (i:Nat) (q:Nat),(i≤l.length)∧E 0=some (.d (fldsD (markR markF cntF l n)))∧E 1=some (.d (dI q))∧E 5=some (.d (dI i))∧((markR markF cntF l n).drop i=markR markF cntF (l.drop i) q)∧(q+cntR cntF (l.drop i)=n+cntR cntF l)∧(n≤q)) (upTo 5 l.length) ⟨0,n,by simp⟩ ?_
  rintro E S hk ⟨i,q,hi,h0,h1,h5,hm,hq,hnq⟩
  have hn:S.n=65:=by first | (simpa using hk.n)|(have hh:=hk.n;simp at hh;exact hh)
  have hg:S.gl=gl:=by first | (simpa using hk.gl)|(have hh:=hk.gl;simp at hh;exact hh)
  have hmd:S.md=[]:=by first | (simpa using hk.md)|(have hh:=hk.md;simp at hh;exact hh)
  simp[h0,h1,h5,hn,hg,hmd]
  have w:=wrap64 (n:=(i:Int)+1) (by omega) (by omega)
  have hml:(markR markF cntF l n).length=l.length:=markR_len _ _ l n
  refine BrT.dec (fun c=>?_) (fun c=>?_)
  · have hi2:i<l.length:=by omega
    have hi3:i<(markR markF cntF l n).length:=by omega
    rw[List.drop_eq_getElem_cons hi2,List.drop_eq_getElem_cons hi3,markR] at hm
    rw[List.drop_eq_getElem_cons hi2,cntR] at hq
    obtain⟨hm1,hm2⟩:=List.cons.inj hm
    have hat:=flds_at (markR markF cntF l n) hi3
    have hcl:=flds_len (markR markF cntF l n)
    have hfit:i*5+5≤(markR markF cntF l n).length*5:=by omega
    rw[hm1] at hat
    have hmem:=List.getElem_mem hi2
    generalize l[i]=v at hm1 hm2 hq hat hmem
    obtain⟨nm,args,ty⟩:=v
    cases ty with
    | mk t lt b =>
    simp only[markF,Fld.cells,markTy,Typ.cells,List.cons_append,List.nil_append] at hat
    simp only[cntF,cntT] at hq
    have hat_0:=row_get0 hat (by decide) rfl
    have hat_0'':=(List.getElem?_eq_some_iff.1 hat_0).2
    have hat_0':i*5<_:=Nat.lt_of_lt_of_le (by omega) hfit
    have hat_1:=row_get hat 1 (by decide) rfl
    have hat_1'':=(List.getElem?_eq_some_iff.1 hat_1).2
    have hat_1':i*5+1<_:=Nat.lt_of_lt_of_le (by omega) hfit
    have hat_2:=row_get hat 2 (by decide) rfl
    have hat_2'':=(List.getElem?_eq_some_iff.1 hat_2).2
    have hat_2':i*5+2<_:=Nat.lt_of_lt_of_le (by omega) hfit
    have hat_3:=row_get hat 3 (by decide) rfl
    have hat_3'':=(List.getElem?_eq_some_iff.1 hat_3).2
    have hat_3':i*5+3<_:=Nat.lt_of_lt_of_le (by omega) hfit
    have hat_4:=row_get hat 4 (by decide) rfl
    have hat_4'':=(List.getElem?_eq_some_iff.1 hat_4).2
    have hat_4':i*5+4<_:=Nat.lt_of_lt_of_le (by omega) hfit
    simp[h0,h1,h5,hn,hg,hmd,c,hat_0,hat_0',hat_0'',hat_1,hat_1',hat_1'',hat_2,hat_2',hat_2'',hat_3,hat_3',hat_3'',hat_4,hat_4',hat_4'',hi2,w,hml,hcl,hfit,hat_0,hat_1,hat_2,hat_3,hat_4]
    all_goals (repeat refine⟨by omega,?_⟩)
    repeat refine⟨DrawT.mk (by kernel_rfl),?_⟩
    refine CallT.p0 (p_markText (q) (by omega) (by omega)) (by first | rfl | (simp;done)|(simp[h0,h1,h5,hn,hg,hmd,c,hat_0,hat_0',hat_0'',hat_1,hat_1',hat_1'',hat_2,hat_2',hat_2'',hat_3,hat_3',hat_3'',hat_4,hat_4',hat_4'',hi2,w,hml,hcl,hfit,hat_0,hat_1,hat_2,hat_3,hat_4];done)) (by first | rfl | (simp;done)|(simp;rfl)|(simp[h0,h1,h5,hn,hg,hmd,c,hat_0,hat_0',hat_0'',hat_1,hat_1',hat_1'',hat_2,hat_2',hat_2'',hat_3,hat_3',hat_3'',hat_4,hat_4',hat_4'',hi2,w,hml,hcl,hfit,hat_0,hat_1,hat_2,hat_3,hat_4];done)) ?_
    simp[h0,h1,h5,hn,hg,hmd,c,hat_0,hat_0',hat_0'',hat_1,hat_1',hat_1'',hat_2,hat_2',hat_2'',hat_3,hat_3',hat_3'',hat_4,hat_4',hat_4'',hi2,w,hml,hcl,hfit,hat_0,hat_1,hat_2,hat_3,hat_4]
    have wq1:IntKind.i64.wrap ((q:Int)+1)=(q:Int)+1:=by rw[wrap64 (by omega) (by omega)]<;>omega
    simp[h0,h1,h5,hn,hg,hmd,c,hat_0,hat_0',hat_0'',hat_1,hat_1',hat_1'',hat_2,hat_2',hat_2'',hat_3,hat_3',hat_3'',hat_4,hat_4',hat_4'',hi2,w,hml,hcl,hfit,hat_0,hat_1,hat_2,hat_3,hat_4,wq1]
    all_goals (repeat refine⟨by omega,?_⟩)
    repeat refine⟨DrawT.mk (by kernel_rfl),?_⟩
    refine CallT.p0 (p_heldArgS args (q+1) (by omega) (by omega)) (by first | rfl | (simp;done)|(simp[h0,h1,h5,hn,hg,hmd,c,hat_0,hat_0',hat_0'',hat_1,hat_1',hat_1'',hat_2,hat_2',hat_2'',hat_3,hat_3',hat_3'',hat_4,hat_4',hat_4'',hi2,w,hml,hcl,hfit,hat_0,hat_1,hat_2,hat_3,hat_4,wq1];done)) (by first | rfl | (simp;done)|(simp;rfl)|(simp[h0,h1,h5,hn,hg,hmd,c,hat_0,hat_0',hat_0'',hat_1,hat_1',hat_1'',hat_2,hat_2',hat_2'',hat_3,hat_3',hat_3'',hat_4,hat_4',hat_4'',hi2,w,hml,hcl,hfit,hat_0,hat_1,hat_2,hat_3,hat_4,wq1];done)) ?_
    simp[h0,h1,h5,hn,hg,hmd,c,hat_0,hat_0',hat_0'',hat_1,hat_1',hat_1'',hat_2,hat_2',hat_2'',hat_3,hat_3',hat_3'',hat_4,hat_4',hat_4'',hi2,w,hml,hcl,hfit,hat_0,hat_1,hat_2,hat_3,hat_4,wq1]
    have wn2:¬ ((q:Int)+1+((cntR cntA args:Nat):Int)<0):=by omega
    simp[h0,h1,h5,hn,hg,hmd,c,hat_0,hat_0',hat_0'',hat_1,hat_1',hat_1'',hat_2,hat_2',hat_2'',hat_3,hat_3',hat_3'',hat_4,hat_4',hat_4'',hi2,w,hml,hcl,hfit,hat_0,hat_1,hat_2,hat_3,hat_4,wq1,wn2]
    all_goals (repeat refine⟨by omega,?_⟩)
    repeat refine⟨DrawT.mk (by kernel_rfl),?_⟩
    refine CallT.p0 (p_markText (q+1+cntR cntA args) (by omega) (by omega)) (by first | rfl | (simp;done)|(simp[h0,h1,h5,hn,hg,hmd,c,hat_0,hat_0',hat_0'',hat_1,hat_1',hat_1'',hat_2,hat_2',hat_2'',hat_3,hat_3',hat_3'',hat_4,hat_4',hat_4'',hi2,w,hml,hcl,hfit,hat_0,hat_1,hat_2,hat_3,hat_4,wq1,wn2];done)) (by first | rfl | (simp;done)|(simp;rfl)|(simp[h0,h1,h5,hn,hg,hmd,c,hat_0,hat_0',hat_0'',hat_1,hat_1',hat_1'',hat_2,hat_2',hat_2'',hat_3,hat_3',hat_3'',hat_4,hat_4',hat_4'',hi2,w,hml,hcl,hfit,hat_0,hat_1,hat_2,hat_3,hat_4,wq1,wn2];done)) ?_
    simp[h0,h1,h5,hn,hg,hmd,c,hat_0,hat_0',hat_0'',hat_1,hat_1',hat_1'',hat_2,hat_2',hat_2'',hat_3,hat_3',hat_3'',hat_4,hat_4',hat_4'',hi2,w,hml,hcl,hfit,hat_0,hat_1,hat_2,hat_3,hat_4,wq1,wn2]
    have wq3:IntKind.i64.wrap ((q:Int)+1+((cntR cntA args:Nat):Int)+1)=(q:Int)+1+((cntR cntA args:Nat):Int)+1:=by rw[wrap64 (by omega) (by omega)]<;>omega
    simp[h0,h1,h5,hn,hg,hmd,c,hat_0,hat_0',hat_0'',hat_1,hat_1',hat_1'',hat_2,hat_2',hat_2'',hat_3,hat_3',hat_3'',hat_4,hat_4',hat_4'',hi2,w,hml,hcl,hfit,hat_0,hat_1,hat_2,hat_3,hat_4,wq1,wn2,wq3]
    all_goals (repeat refine⟨by omega,?_⟩)
    repeat refine⟨DrawT.mk (by kernel_rfl),?_⟩
    refine CallT.p0 (p_heldTypeS lt (q+1+cntR cntA args+1) (by omega) (by omega)) (by first | rfl | (simp;done)|(simp[h0,h1,h5,hn,hg,hmd,c,hat_0,hat_0',hat_0'',hat_1,hat_1',hat_1'',hat_2,hat_2',hat_2'',hat_3,hat_3',hat_3'',hat_4,hat_4',hat_4'',hi2,w,hml,hcl,hfit,hat_0,hat_1,hat_2,hat_3,hat_4,wq1,wn2,wq3];done)) (by first | rfl | (simp;done)|(simp;rfl)|(simp[h0,h1,h5,hn,hg,hmd,c,hat_0,hat_0',hat_0'',hat_1,hat_1',hat_1'',hat_2,hat_2',hat_2'',hat_3,hat_3',hat_3'',hat_4,hat_4',hat_4'',hi2,w,hml,hcl,hfit,hat_0,hat_1,hat_2,hat_3,hat_4,wq1,wn2,wq3];done)) ?_
    simp[h0,h1,h5,hn,hg,hmd,c,hat_0,hat_0',hat_0'',hat_1,hat_1',hat_1'',hat_2,hat_2',hat_2'',hat_3,hat_3',hat_3'',hat_4,hat_4',hat_4'',hi2,w,hml,hcl,hfit,hat_0,hat_1,hat_2,hat_3,hat_4,wq1,wn2,wq3]
    have wn4:¬ ((q:Int)+1+((cntR cntA args:Nat):Int)+1+((cntTs lt:Nat):Int)<0):=by omega
    have wb5:=mark_bool (m:=q+1+cntR cntA args+1+cntTs lt) (z:=(q:Int)+1+((cntR cntA args:Nat):Int)+1+((cntTs lt:Nat):Int)) (by omega)
    have wq6:IntKind.i64.wrap ((q:Int)+1+((cntR cntA args:Nat):Int)+1+((cntTs lt:Nat):Int)+1)=(q:Int)+1+((cntR cntA args:Nat):Int)+1+((cntTs lt:Nat):Int)+1:=by rw[wrap64 (by omega) (by omega)]<;>omega
    simp[h0,h1,h5,hn,hg,hmd,c,hat_0,hat_0',hat_0'',hat_1,hat_1',hat_1'',hat_2,hat_2',hat_2'',hat_3,hat_3',hat_3'',hat_4,hat_4',hat_4'',hi2,w,hml,hcl,hfit,hat_0,hat_1,hat_2,hat_3,hat_4,wq1,wn2,wq3,wn4,wb5,wq6]
    all_goals (repeat refine⟨by omega,?_⟩)
    exact⟨⟨i+1,hi2,q+(1+cntR cntA args+(2+cntTs lt)),by omega,by omega,hm2,by omega,by omega⟩,upTo_lt h5 (by simp) hi2⟩
  · simp[h0,h1,h5,hn,hg,hmd,c]
    rw[List.drop_eq_nil_of_le (by omega),cntR] at hq
    omega
set_option maxHeartbeats 8000000 in
theorem p_heldDefS (l:List Def) (n:Nat) (h1:1≤n) (hn:n+cntR cntDf l≤1073741824):PCall Tryz.prog gl 34 [defsD (markR markDf cntDf l n),dI n] (dI ((n+cntR cntDf l:Nat):Int)):=by
  have hlen:=cntR_len cntDf_pos l
  refine PCall.by_ (md:=[]) Tryz.func34 rfl (by kernel_rfl) (n:=50) Tryz.ntmps34 (by simp) (by decide) rfl ?_
  simp
  refine LoopT.round (fun E S=>∃ (i:Nat) (q:Nat),(i≤l.length)∧E 0=some (.d (defsD (markR markDf cntDf l n)))∧E 1=some (.d (dI q))∧E 5=some (.d (dI i))∧((markR markDf cntDf l n).drop i=markR markDf cntDf (l.drop i) q)∧(q+cntR cntDf (l.drop i)=n+cntR cntDf l)∧(n≤q)) (upTo 5 l.length) ⟨0,n,by simp⟩ ?_
  rintro E S hk ⟨i,q,hi,h0,h1,h5,hm,hq,hnq⟩
  have hn:S.n=50:=by first | (simpa using hk.n)|(have hh:=hk.n;simp at hh;exact hh)
  have hg:S.gl=gl:=by first | (simpa using hk.gl)|(have hh:=hk.gl;simp at hh;exact hh)
  have hmd:S.md=[]:=by first | (simpa using hk.md)|(have hh:=hk.md;simp at hh;exact hh)
  simp[h0,h1,h5,hn,hg,hmd]
  have w:=wrap64 (n:=(i:Int)+1) (by omega) (by omega)
  have hml:(markR markDf cntDf l n).length=l.length:=markR_len _ _ l n
  refine BrT.dec (fun c=>?_) (fun c=>?_)
  · have hi2:i<l.length:=by omega
    have hi3:i<(markR markDf cntDf l n).length:=by omega
    rw[List.drop_eq_getElem_cons hi2,List.drop_eq_getElem_cons hi3,markR] at hm
    rw[List.drop_eq_getElem_cons hi2,cntR] at hq
    obtain⟨hm1,hm2⟩:=List.cons.inj hm
    have hat:=defs_at (markR markDf cntDf l n) hi3
    have hcl:=defs_len (markR markDf cntDf l n)
    have hfit:i*4+4≤(markR markDf cntDf l n).length*4:=by omega
    rw[hm1] at hat
    have hmem:=List.getElem_mem hi2
    generalize l[i]=v at hm1 hm2 hq hat hmem
    obtain⟨nm,kind,flds,words⟩:=v
    simp only[markDf,Def.cells] at hat
    simp only[cntDf] at hq
    have hat_0:=row_get0 hat (by decide) rfl
    have hat_0'':=(List.getElem?_eq_some_iff.1 hat_0).2
    have hat_0':i*4<_:=Nat.lt_of_lt_of_le (by omega) hfit
    have hat_1:=row_get hat 1 (by decide) rfl
    have hat_1'':=(List.getElem?_eq_some_iff.1 hat_1).2
    have hat_1':i*4+1<_:=Nat.lt_of_lt_of_le (by omega) hfit
    have hat_2:=row_get hat 2 (by decide) rfl
    have hat_2'':=(List.getElem?_eq_some_iff.1 hat_2).2
    have hat_2':i*4+2<_:=Nat.lt_of_lt_of_le (by omega) hfit
    have hat_3:=row_get hat 3 (by decide) rfl
    have hat_3'':=(List.getElem?_eq_some_iff.1 hat_3).2
    have hat_3':i*4+3<_:=Nat.lt_of_lt_of_le (by omega) hfit
    simp[h0,h1,h5,hn,hg,hmd,c,hat_0,hat_0',hat_0'',hat_1,hat_1',hat_1'',hat_2,hat_2',hat_2'',hat_3,hat_3',hat_3'',hi2,w,hml,hcl,hfit,hat_0,hat_1,hat_2,hat_3]
    all_goals (repeat refine⟨by omega,?_⟩)
    repeat refine⟨DrawT.mk (by kernel_rfl),?_⟩
    refine CallT.p0 (p_markText (q) (by omega) (by omega)) (by first | rfl | (simp;done)|(simp[h0,h1,h5,hn,hg,hmd,c,hat_0,hat_0',hat_0'',hat_1,hat_1',hat_1'',hat_2,hat_2',hat_2'',hat_3,hat_3',hat_3'',hi2,w,hml,hcl,hfit,hat_0,hat_1,hat_2,hat_3];done)) (by first | rfl | (simp;done)|(simp;rfl)|(simp[h0,h1,h5,hn,hg,hmd,c,hat_0,hat_0',hat_0'',hat_1,hat_1',hat_1'',hat_2,hat_2',hat_2'',hat_3,hat_3',hat_3'',hi2,w,hml,hcl,hfit,hat_0,hat_1,hat_2,hat_3];done)) ?_
    simp[h0,h1,h5,hn,hg,hmd,c,hat_0,hat_0',hat_0'',hat_1,hat_1',hat_1'',hat_2,hat_2',hat_2'',hat_3,hat_3',hat_3'',hi2,w,hml,hcl,hfit,hat_0,hat_1,hat_2,hat_3]
    have wq1:IntKind.i64.wrap ((q:Int)+1)=(q:Int)+1:=by rw[wrap64 (by omega) (by omega)]<;>omega
    have wq2:IntKind.i64.wrap ((q:Int)+1+1)=(q:Int)+2:=by rw[wrap64 (by omega) (by omega)]<;>omega
    simp[h0,h1,h5,hn,hg,hmd,c,hat_0,hat_0',hat_0'',hat_1,hat_1',hat_1'',hat_2,hat_2',hat_2'',hat_3,hat_3',hat_3'',hi2,w,hml,hcl,hfit,hat_0,hat_1,hat_2,hat_3,wq1,wq2]
    all_goals (repeat refine⟨by omega,?_⟩)
    repeat refine⟨DrawT.mk (by kernel_rfl),?_⟩
    refine CallT.p0 (p_heldFieldS flds (q+2) (by omega) (by omega)) (by first | rfl | (simp;done)|(simp[h0,h1,h5,hn,hg,hmd,c,hat_0,hat_0',hat_0'',hat_1,hat_1',hat_1'',hat_2,hat_2',hat_2'',hat_3,hat_3',hat_3'',hi2,w,hml,hcl,hfit,hat_0,hat_1,hat_2,hat_3,wq1,wq2];done)) (by first | rfl | (simp;done)|(simp;rfl)|(simp[h0,h1,h5,hn,hg,hmd,c,hat_0,hat_0',hat_0'',hat_1,hat_1',hat_1'',hat_2,hat_2',hat_2'',hat_3,hat_3',hat_3'',hi2,w,hml,hcl,hfit,hat_0,hat_1,hat_2,hat_3,wq1,wq2];done)) ?_
    simp[h0,h1,h5,hn,hg,hmd,c,hat_0,hat_0',hat_0'',hat_1,hat_1',hat_1'',hat_2,hat_2',hat_2'',hat_3,hat_3',hat_3'',hi2,w,hml,hcl,hfit,hat_0,hat_1,hat_2,hat_3,wq1,wq2]
    have wn3:¬ ((q:Int)+2+((cntR cntF flds:Nat):Int)<0):=by omega
    simp[h0,h1,h5,hn,hg,hmd,c,hat_0,hat_0',hat_0'',hat_1,hat_1',hat_1'',hat_2,hat_2',hat_2'',hat_3,hat_3',hat_3'',hi2,w,hml,hcl,hfit,hat_0,hat_1,hat_2,hat_3,wq1,wq2,wn3]
    all_goals (repeat refine⟨by omega,?_⟩)
    repeat refine⟨DrawT.mk (by kernel_rfl),?_⟩
    refine CallT.p0 (p_heldStringS (q+2+cntR cntF flds) words.length (by omega) (by omega) (by omega)) (by first | rfl | (simp;done)|(simp[h0,h1,h5,hn,hg,hmd,c,hat_0,hat_0',hat_0'',hat_1,hat_1',hat_1'',hat_2,hat_2',hat_2'',hat_3,hat_3',hat_3'',hi2,w,hml,hcl,hfit,hat_0,hat_1,hat_2,hat_3,wq1,wq2,wn3];done)) (by first | rfl | (simp;done)|(simp;rfl)|(simp[h0,h1,h5,hn,hg,hmd,c,hat_0,hat_0',hat_0'',hat_1,hat_1',hat_1'',hat_2,hat_2',hat_2'',hat_3,hat_3',hat_3'',hi2,w,hml,hcl,hfit,hat_0,hat_1,hat_2,hat_3,wq1,wq2,wn3];done)) ?_
    simp[h0,h1,h5,hn,hg,hmd,c,hat_0,hat_0',hat_0'',hat_1,hat_1',hat_1'',hat_2,hat_2',hat_2'',hat_3,hat_3',hat_3'',hi2,w,hml,hcl,hfit,hat_0,hat_1,hat_2,hat_3,wq1,wq2,wn3]
    have wn4:¬ ((q:Int)+2+((cntR cntF flds:Nat):Int)+((words.length:Nat):Int)<0):=by omega
    simp[h0,h1,h5,hn,hg,hmd,c,hat_0,hat_0',hat_0'',hat_1,hat_1',hat_1'',hat_2,hat_2',hat_2'',hat_3,hat_3',hat_3'',hi2,w,hml,hcl,hfit,hat_0,hat_1,hat_2,hat_3,wq1,wq2,wn3,wn4]
    all_goals (repeat refine⟨by omega,?_⟩)
    exact⟨⟨i+1,hi2,q+(2+cntR cntF flds+words.length),by omega,by omega,hm2,by omega,by omega⟩,upTo_lt h5 (by simp) hi2⟩
  · simp[h0,h1,h5,hn,hg,hmd,c]
    rw[List.drop_eq_nil_of_le (by omega),cntR] at hq
    omega
end Go.Proofs.YtbmoiajdknejnaaGreat
