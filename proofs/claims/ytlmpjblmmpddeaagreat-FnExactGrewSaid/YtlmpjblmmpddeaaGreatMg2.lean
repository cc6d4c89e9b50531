/- ShT and what follows it, one behind another. -/
import Derived.Test.YtlmpjblmmpddeaaGreatMg1
import Derived.MapKept
import Derived.WideKeyEntry
import Derived.Laws.IdiomRangeMap
import Derived.Laws.StructEq
import Derived.LaidEqlPtr
import Derived.TacticsIn
import Derived.RangeFuncRecord
import Derived.RangeFuncSeq
set_option linter.unusedVariables false
set_option linter.unusedSimpArgs false
namespace Go.Sh
open Go.RowKit (Below)
section
variable {P:Program}{m0:Nat→Nat}{w0:World}{G:Gh}{E:Env}{S:St}{F:Nat→Prop}{a:Act}{w:World}{o:Oper}
theorem below_setRow {w:World}{B n:Nat}{us:Array Value} (h:n≤B):Below n w (w.setRow B us) :=
  ⟨rfl,rfl,rfl,by simp[World.setRow],fun i hi=>by simp only[World.setRow,Array.getElem?_modify];rw[if_neg (by omega)]⟩
theorem Rel.set_box (h:Rel m0 w0 G E S F a w) {b B:Nat}{cs cs':List SV} (hb:S.B b=some cs) (h1:G.box b=some B) {us us':Array Value}{T:TypeId}{fr:Nat×Nat} (h2:w.heap[B]?=some (.cells us T fr)) (hsz:us'.size=us.size) (hl:cs'.length≤us'.size)
    (hv:∀ W G',Fut G w G' W→∀ j (h:j<cs'.length) (h':j<us'.size),(cs'[j]).cell=true∧VR G' W cs'[j] us'[j]) :
    Rel m0 w0 G E (S.set b cs') F a (w.setRow B us')∧Fut G w G (w.setRow B us'):=by
  obtain⟨B',us0,T0,k1,k2,h3,h4,h5,hu0,h6⟩:=h.box b cs hb (h.boxOf hb h1)
  obtain rfl:B=B':=Option.some.inj (h1.symm.trans k1)
  rw[h2] at k2;cases k2
  have hother:∀ i,i≠B→(w.setRow B us').heap[i]?=w.heap[i]?:=by
    intro i hi
    simp only[World.setRow,Array.getElem?_modify]
    rw[if_neg (fun e=>hi e.symm)]
  have hsize:(w.setRow B us').heap.size=w.heap.size:=by simp[World.setRow]
  have hnew:(w.setRow B us').heap[B]?=some (.cells us' T0.1 T0.2):=heap_setRow_same h2
  have hcalm:Calm w (w.setRow B us'):=calm_row h2 hnew hsz hother
  have f:Fut G w G (w.setRow B us'):=by
    refine Fut.mk' hcalm (fun _ _ h=>h) (fun _ B v k cap h=>⟨B,v,k,cap,h,Nat.le_refl _,fun _=>⟨rfl,rfl,rfl,rfl⟩⟩) (fun _=>Nat.le_refl _) (fun i j hj=>?_) (fun _ _ h=>h)
    by_cases e:i=B
    · subst e;rw[h4] at hj;omega
    · simp only[World.cell?,hother i e]
  have keepB:∀ b',(S.set b cs').B b'≠none→S.B b'≠none:=fun b' hb'=>by
    by_cases e:b'=b
    · subst e;rw[hb];simp
    · simpa only [St.set,upd_ne S.B _ e] using hb'
  refine⟨⟨fun k s hk=>(h.env k s hk).fut f,h.size,h.few,fun b' cs2 hb' ho'=>?_,fun b1 b2 B' e1 e2=>h.inj b1 b2 B' (keepB b1 e1) (keepB b2 e2),fun i k sz hi=>?_,h.tinj,fun i B v k c hi=>by have:=h.tlt i B v k c hi;omega,fun i b' B v k c hi hb'=>h.tbox i b' B v k c hi (keepB b' hb'),h.fresh,fun i hi=>h.new i (by omega),h.low,h.below.trans (below_setRow (by omega)),h.defers,fun g x hg=>(h.glob g x hg).fut f,h.more.keep f hcalm (fun b' cs2 B' hb' ho'=>by
      have e:b'≠b:=fun e=>by
        subst e
        rw[h.boxOf hb h1] at ho';cases ho'
      simpa only [St.set,upd_ne S.B _ e] using hb') rfl (fun _ _ _=>rfl) rfl (fun _ h=>h) rfl⟩,f⟩
  · by_cases e:b'=b
    · subst e
      have:cs2=cs':=by have:=hb';simp only[St.set,upd_same,Option.some.injEq] at this;exact this.symm
      subst this
      exact⟨B,us',T0,h1,hnew,hl,h4,h5,hu0,fun j hj hj'=>hv _ _ f j hj hj'⟩
    · have hb2:S.B b'=some cs2:=by simpa only [St.set,upd_ne S.B _ e] using hb'
      obtain⟨B',us2,T'',g1,g2,g3,g4,g5,gu0,g6⟩:=h.box b' cs2 hb2 ho'
      have hne:B'≠B:=fun eq=>e (h.inj b' b B (by rw[hb2];simp) (by rw[hb];simp) (by rw[g1,eq]) h1)
      exact⟨B',us2,T'',g1,(hother B' hne).trans g2,g3,g4,g5,gu0,fun j hj hj'=>⟨(g6 j hj hj').1,(g6 j hj hj').2.fut f⟩⟩
  · obtain⟨B',v',us2,T'',cap,fr,g1,g2,g3,g4,g5,g6,g7,g8,g9⟩:=h.tip i k sz hi
    have hne:B'≠B:=fun eq=>by
      subst eq
      exact h.tbox i b B' v' k cap g1 (by rw[hb];simp) h1
    exact⟨B',v',us2,T'',cap,fr,g1,(hother B' hne).trans g2,g3,g4,g5,g6,g7,g8,g9⟩
theorem Rel.rename (h:Rel m0 w0 G E S F a w) {b id B:Nat}{cs:List SV} (hb:S.B b=some cs) (h1:G.box b=some B) (hid:F id) :
    Rel m0 w0 { G with box:=upd G.box id B } E (S.mov b id cs) (fun b=>F b∧b≠id) a w∧Fut G w { G with box:=upd G.box id B } w:=by
  obtain⟨hf1,hf2⟩:=h.fresh id hid
  have hfo:=h.more.ofresh id hid
  have hne:b≠id:=fun e=>by rw[e,hf1] at h1;cases h1
  have hno:=h.boxOf hb h1
  have f:Fut G w { G with box:=upd G.box id B } w:=by
    refine Fut.mk' (.refl w) (fun b' B' hb'=>?_) (fun _ B v k cap h=>⟨B,v,k,cap,h,Nat.le_refl _,fun _=>⟨rfl,rfl,rfl,rfl⟩⟩) (fun _=>Nat.le_refl _) (fun _ _ _=>rfl) (fun _ _ h=>h)
    by_cases e:b'=id
    · subst e;rw[hf1] at hb';cases hb'
    · exact (upd_ne _ _ e).trans hb'
  have old:∀ b',b'≠id→(S.mov b id cs).B b'≠none→S.B b'≠none∧b'≠b:=fun b' e hn=>by
    simp only[St.mov,upd_ne _ cs e] at hn
    split at hn
    · exact absurd rfl hn
    · rename_i e2;exact⟨hn,e2⟩
  refine⟨⟨fun k s hk=>(h.env k s hk).fut f,h.size,h.few,fun b' cs' hb' ho=>?_,fun b1 b2 X e1 e2 g1 g2=>?_,h.tip,h.tinj,h.tlt,fun i b' X v k c hi hb' e=>?_,fun b' hb'=>⟨(upd_ne _ _ hb'.2).trans (h.fresh b' hb'.1).1,(h.fresh b' hb'.1).2⟩,h.new,h.low,h.below,h.defers,fun g x hg=>(h.glob g x hg).fut f,h.more.keep f (.refl w) (fun b' cs' X hb' ho'=>by
      have e:b'≠id:=fun e=>by rw[e,hfo] at ho';cases ho'
      simp only[St.mov,upd_ne _ cs e] at hb'
      split at hb'
      · cases hb'
      · exact hb') rfl (fun b' X ho'=>by
      have e:b'≠id:=fun e=>by rw[e,hfo] at ho';cases ho'
      exact upd_ne _ _ e) rfl (fun _ h=>h.1) rfl⟩,f⟩
  · by_cases e:b'=id
    · subst e
      have:cs'=cs:=by have:=hb';simp only[St.mov,upd_same,Option.some.injEq] at this;exact this.symm
      subst this
      obtain⟨X,us,T,g1,g2,g3,g4,g5,gu,g6⟩:=h.box b _ hb hno
      obtain rfl:B=X:=Option.some.inj (h1.symm.trans g1)
      exact⟨B,us,T,upd_same _ _ _,g2,g3,g4,g5,gu,fun j hj hj'=>⟨(g6 j hj hj').1,(g6 j hj hj').2.fut f⟩⟩
    · simp only[St.mov,upd_ne _ cs e] at hb'
      split at hb'
      · cases hb'
      · obtain⟨X,us,T,g1,g2,g3,g4,g5,gu,g6⟩:=h.box b' cs' hb' ho
        exact⟨X,us,T,(upd_ne _ _ e).trans g1,g2,g3,g4,g5,gu,fun j hj hj'=>⟨(g6 j hj hj').1,(g6 j hj hj').2.fut f⟩⟩
  · by_cases c1:b1=id
    · by_cases c2:b2=id
      · rw[c1,c2]
      · exfalso
        subst c1
        obtain⟨k1,k2⟩:=old b2 c2 e2
        have x1:some B=some X:=(upd_same G.box b1 B).symm.trans g1
        cases x1
        exact k2 (h.inj b2 b B k1 (by rw[hb];simp) ((upd_ne _ _ c2).symm.trans g2) h1)
    · by_cases c2:b2=id
      · exfalso
        subst c2
        obtain⟨k1,k2⟩:=old b1 c1 e1
        have x1:some B=some X:=(upd_same G.box b2 B).symm.trans g2
        cases x1
        exact k2 (h.inj b1 b B k1 (by rw[hb];simp) ((upd_ne _ _ c1).symm.trans g1) h1)
      · exact h.inj b1 b2 X (old b1 c1 e1).1 (old b2 c2 e2).1 ((upd_ne _ _ c1).symm.trans g1) ((upd_ne _ _ c2).symm.trans g2)
  · by_cases c1:b'=id
    · subst c1
      have x1:some B=some X:=(upd_same G.box b' B).symm.trans e
      cases x1
      exact h.tbox i b B v k c hi (by rw[hb];simp) h1
    · exact h.tbox i b' X v k c hi (old b' c1 hb').1 ((upd_ne _ _ c1).symm.trans e)
theorem mov_less {b id:Nat}{cs:List SV} (h:b≠id):(∀ x c,(S.mov b id cs).B x=some c→(S.new id cs).B x=some c):=by
  intro x c hx
  by_cases e:x=id
  · subst e;simpa only [St.mov,St.new,upd_same] using hx
  · simp only[St.mov,upd_ne _ cs e] at hx
    split at hx
    · cases hx
    · simpa only [St.new,upd_ne S.B cs e] using hx
theorem does_append_skV {x y:Operand}{T e:TypeId}{sz by_:Nat}{cs xs:List SV}{n m b id By oy cy:Nat}{vs:List Value} (ho:o.op=.call { callee:=.builtin .append,args:=#[x,y],argTypes:=#[T,T] }) (h:Rel m0 w0 G E S F a w) (hid:F id)
    (hx:evalO E x=some (.sk b n sz)) (hb:S.B b=some cs) (e2:a.eval y=.slice (some ⟨By,oy,none⟩) m cy) (hvl:vs.length=xs.length) (hvc:∀ j v,vs[j]?=some v→w.cell? ⟨By,oy+j,none⟩=some v) (hvv:∀ j (h:j<xs.length) (h':j<vs.length),(xs[j]).cell=true∧VR G w xs[j] vs[j]) (hT:appOf P T=some (e,sz,by_)) (hm:0<m) (hcs:n*sz≤cs.length) (hds:xs.length=m*sz)
    (hbd:(n+m)*by_≤140737488355328) (hb2:n+m≤140737488355328):Does P m0 w0 G E S F a w o (.sk id (n+m) sz) (S.mov b id (cs.take (n*sz)++xs)) (fun b=>F b∧b≠id):=by
  obtain⟨hu,i,z,hi,hz,h1,h2,h3,h4⟩:=appOf_ok hT
  have hX:=evalO_ok h hx
  have hvc':∀ j v,vs[j]?=some v→w.cell? ((⟨By,oy,none⟩:Addr).add j)=some v:=fun j v hj=>by rw[add_off];exact hvc j v hj
  have hvl2:vs.length=m*i.size:=by rw[hvl,hds,h2]
  have hv1:∀ u∈vs,u.oneCell'=true:=fun u hu=>by
    obtain⟨j,hj,rfl⟩:=List.getElem_of_mem hu
    obtain⟨g1,g2⟩:=hvv j (by omega) hj
    exact g2.one g1
  generalize hA:a.eval x=A at hX
  obtain⟨B,c,us,T',fr,hg,hnc,rfl,hB,hroom⟩:=hX.sk_inv
  have hno:=h.boxOf hb hg
  obtain⟨B',us0,T0,k1,k2,g3,g4,g5,gu,g6⟩:=h.box b cs hb hno
  obtain rfl:B=B':=Option.some.inj (hg.symm.trans k1)
  rw[hB] at k2;cases k2
  have hfr:T0.2=(0,0):=gu
  obtain⟨hf1,hf2⟩:=h.fresh id hid
  have hne:b≠id:=fun e=>by rw[e,hf1] at hg;cases hg
  have hmul:(n+m)*sz=n*sz+m*sz:=Nat.add_mul ..
  by_cases hfit:n+m≤c
  · have hle:(n+m)*sz≤c*sz:=Nat.mul_le_mul_right _ hfit
    have hr:=run_append_room2 (P:=P) (w:=w) (ty:=o.type) hu hi B 0 n c us T0.1 hB gu ⟨By,oy,none⟩ m cy vs hvl2 hvc' hv1 hfit (by rw[Nat.zero_add,hvl2,h2];omega)
    have hr2:=run_builtin_append ho hA e2 hr
    rw[Nat.zero_add,h2] at hr2
    have hlenT:(us.toList.take (n*sz)).length=n*sz:=by simp;omega
    have hvs:vs.length=m*sz:=by rw[hvl2,h2]
    obtain⟨r1,f1⟩:=h.set_box hb hg hB (us':=(us.toList.take (n*sz)++vs++us.toList.drop (n*sz+vs.length)).toArray) (cs':=cs.take (n*sz)++xs) (by simp;omega) (by simp;omega) (fun W G' f j hj hj'=>by
      have hlenC:(cs.take (n*sz)).length=n*sz:=by simp;omega
      rcases Nat.lt_or_ge j (n*sz) with hlt | hge
      · have e3:(cs.take (n*sz)++xs)[j]=cs[j]'(by omega):=by rw[List.getElem_append_left (by omega)];simp
        have e4:((us.toList.take (n*sz)++vs++us.toList.drop (n*sz+vs.length)).toArray)[j]=us[j]'(by omega):=by
          simp only[List.getElem_toArray,List.append_assoc]
          rw[List.getElem_append_left (by omega)]
          simp
        rw[e3,e4]
        exact⟨(g6 j (by omega) (by omega)).1,(g6 j (by omega) (by omega)).2.fut f⟩
      · have hj2:j - n*sz<xs.length:=by
          have:=hj
          rw[List.length_append,hlenC] at this
          omega
        have e3:(cs.take (n*sz)++xs)[j]=xs[j - n*sz]'hj2:=by rw[List.getElem_append_right (by omega)];simp[hlenC]
        have e4:((us.toList.take (n*sz)++vs++us.toList.drop (n*sz+vs.length)).toArray)[j]=vs[j - n*sz]'(by omega):=by
          simp only[List.getElem_toArray,List.append_assoc]
          rw[List.getElem_append_right (by omega),List.getElem_append_left (by omega)]
          simp[hlenT]
        rw[e3,e4]
        exact⟨(hvv _ hj2 (by omega)).1,(hvv _ hj2 (by omega)).2.fut f⟩)
    have hbs:(S.set b (cs.take (n*sz)++xs)).B b=some (cs.take (n*sz)++xs):=upd_same _ _ _
    obtain⟨r2,f2⟩:=r1.rename hbs hg hid
    have eS:(S.set b (cs.take (n*sz)++xs)).mov b id (cs.take (n*sz)++xs)=S.mov b id (cs.take (n*sz)++xs):=by
      unfold St.mov St.set
      congr 1
      funext x
      by_cases e:x=id
      · subst e;simp only[upd_same]
      · simp only[upd_ne _ _ e]
        split
        · rfl
        · rename_i e';exact upd_ne _ _ e'
    rw[eS] at r2
    obtain⟨us9,kk1,kk2⟩:=(f1.trans f2).row _ _ _ _ hB
    exact⟨_,_,_,_,hr2, .inl rfl, .sk (upd_same _ _ _) hfit kk1 (by rw[kk2];exact hroom),r2,f1.trans f2⟩
  · have hus:∀ j v,((us.toList.take (n*sz))[j]?=some v)→w.cell? ((⟨B,0,none⟩:Addr).add j)=some v:=fun j v hj=>by
      rw[add_off,Nat.zero_add,cell_of_heap hB]
      rw[List.getElem?_take] at hj
      split at hj
      · simpa using hj
      · cases hj
    have hlenT:(us.toList.take (n*sz)).length=n*sz:=by simp;omega
    have hr:=run_append_grow (P:=P) w T o.type e i z hu hi hz ⟨B,0,none⟩ n c (us.toList.take (n*sz)) (by rw[hlenT,h2]) hus ⟨By,oy,none⟩ m cy vs hvl2 hvc' (by omega) (by omega) (growslice_fits (by omega) (by rw[h3];exact hbd))
    have hr2:=run_builtin_append ho hA e2 hr
    have hge:=grownCap_ge w (n+m) c e
    obtain⟨G',r1,f,r2⟩:=h.draw.new_box (id:=id) hid (cs.take (n*sz)++xs) ((us.toList.take (n*sz)).toArray++vs.toArray++Builtin.zeroCells z.cells (grownCap w (n+m) c e - (n+m))) e (by simp;omega) (fun j hj hj'=>by
      have hlenC:(cs.take (n*sz)).length=n*sz:=by simp;omega
      rcases Nat.lt_or_ge j (n*sz) with hlt | hge
      · have e3:(cs.take (n*sz)++xs)[j]=cs[j]'(by omega):=by rw[List.getElem_append_left (by omega)];simp
        have e4:((us.toList.take (n*sz)).toArray++vs.toArray++Builtin.zeroCells z.cells (grownCap w (n+m) c e - (n+m)))[j]=us[j]'(by omega):=by
          have hl1:((us.toList.take (n*sz)).toArray++vs.toArray).size=n*sz+m*sz:=by rw[Array.size_append,List.size_toArray,List.size_toArray,hlenT,hvl2,h2]
          rw[Array.getElem_append_left (by omega),Array.getElem_append_left (by simp;omega)]
          simp
        rw[e3,e4]
        exact⟨(g6 j (by omega) (by omega)).1,(g6 j (by omega) (by omega)).2.fut (fut_draw G w)⟩
      · have hj2:j - n*sz<xs.length:=by
          have:=hj
          rw[List.length_append,hlenC] at this
          omega
        have e3:(cs.take (n*sz)++xs)[j]=xs[j - n*sz]'hj2:=by rw[List.getElem_append_right (by omega)];simp[hlenC]
        have e4:((us.toList.take (n*sz)).toArray++vs.toArray++Builtin.zeroCells z.cells (grownCap w (n+m) c e - (n+m)))[j]=vs[j - n*sz]'(by omega):=by
          have hl1:((us.toList.take (n*sz)).toArray++vs.toArray).size=n*sz+m*sz:=by rw[Array.size_append,List.size_toArray,List.size_toArray,hlenT,hvl2,h2]
          rw[Array.getElem_append_left (by omega),Array.getElem_append_right (by simp;omega)]
          simp only[List.size_toArray,hlenT,List.getElem_toArray]
        rw[e3,e4]
        exact⟨(hvv _ hj2 (by omega)).1,(hvv _ hj2 (by omega)).2.fut (fut_draw G w)⟩)
    have hk:Rel m0 w0 G' E (S.mov b id (cs.take (n*sz)++xs)) (fun b=>F b∧b≠id) a (w.drew.alloc (.cells ((us.toList.take (n*sz)).toArray++vs.toArray++Builtin.zeroCells z.cells (grownCap w (n+m) c e - (n+m))) e)):=by
      have lessB:=mov_less (S:=S) (cs:=cs.take (n*sz)++xs) hne
      have ne:∀ x,(S.mov b id (cs.take (n*sz)++xs)).B x≠none→(S.new id (cs.take (n*sz)++xs)).B x≠none:=fun x hx e=>by
        obtain⟨c',hc'⟩:=Option.ne_none_iff_exists'.1 hx
        rw[lessB x c' hc'] at e;cases e
      exact⟨r1.env,r1.size,r1.few,fun b cs hb ho=>r1.box b cs (lessB b cs hb) ho,fun b b' B hb hb'=>r1.inj b b' B (ne b hb) (ne b' hb'),r1.tip,r1.tinj,r1.tlt,fun i b B v k c hi hb=>r1.tbox i b B v k c hi (ne b hb),r1.fresh,r1.new,r1.low,r1.below,r1.defers,r1.glob,
        r1.more.keep (Fut.refl _ _) (.refl _) (fun b cs B hb _=>lessB b cs hb) rfl (fun _ _ _=>rfl) rfl (fun _ h=>h) rfl⟩
    refine⟨_,_,_,G',hr2, .inl rfl, .sk r2 hge (heap_alloc_self (w:=w.drew)) ?_,hk,(fut_draw G w).trans f⟩
    rw[Array.size_append,Array.size_append,List.size_toArray,List.size_toArray,hlenT,hvl2,size_zeroCells,h1,h2, ← Nat.add_mul, ← Nat.add_mul]
    exact Nat.mul_le_mul_right _ (by omega)
theorem does_append_sk {x y:Operand}{T e:TypeId}{sz by_:Nat}{t:SV}{cs:List SV}{ds:List D}{n m b id:Nat} (ho:o.op=.call { callee:=.builtin .append,args:=#[x,y],argTypes:=#[T,T] }) (h:Rel m0 w0 G E S F a w) (hid:F id)
    (hx:evalO E x=some (.sk b n sz)) (hb:S.B b=some cs) (hy:evalO E y=some t) (ht:rowS t=some (ds,m)) (hT:appOf P T=some (e,sz,by_)) (hm:0<m) (hcs:n*sz≤cs.length) (hds:ds.length=m*sz)
    (hbd:(n+m)*by_≤140737488355328) (hb2:n+m≤140737488355328):Does P m0 w0 G E S F a w o (.sk id (n+m) sz) (S.mov b id (cs.take (n*sz)++ds.map .d)) (fun b=>F b∧b≠id):=by
  obtain⟨hu,i,z,hi,hz,h1,h2,h3,h4⟩:=appOf_ok hT
  have hdl:0<ds.length:=by rw[hds];exact Nat.mul_pos hm h4
  obtain⟨By,oy,cy,e2,_,vs,hvl,hvc,hvv⟩:=(rowS_ok ht (evalO_ok h hy)).cells hdl
  exact does_append_skV (vs:=vs) ho h hid hx hb e2 (by simpa using hvl) (fun j v hj=>(hvc j v hj).2) (fun j hj hj'=>by
    have:=hvv j (by simpa using hj) hj'
    simp only[List.getElem_map]
    exact⟨this.1, .d this.2⟩) hT hm hcs (by simpa using hds) hbd hb2
def rowB (off k n:Nat):Option (List SV)→Option (List SV×Nat)
  | some cs=>if off+k≤cs.length then some ((cs.drop off).take k,n) else none
  | none=>none
def rowSV (B:Nat→Option (List SV)) (sz:Nat):SV→Option (List SV×Nat)
  | .os b off n=>rowB off (n*sz) n (B b)
  | .sk b n sz'=>if sz'=sz then rowB 0 (n*sz) n (B b) else none
  | .ls cs n=>some (cs,n)
  | t=>(rowS t).map fun p=>(p.1.map .d,p.2)
theorem rowSV_ok {sz:Nat}{t:SV}{xs:List SV}{m:Nat}{u:Value} (h:Rel m0 w0 G E S F a w) (hr:rowSV S.B sz t=some (xs,m)) (hv:VR G w t u) (hpos:0<xs.length):∃ By oy cy,u=.slice (some ⟨By,oy,none⟩) m cy ∧
    ∃ vs:List Value,vs.length=xs.length∧(∀ j v,vs[j]?=some v→w.cell? ⟨By,oy+j,none⟩=some v)∧∀ j (h:j<xs.length) (h':j<vs.length),(xs[j]).cell=true∧VR G w xs[j] vs[j]:=by
  have blk:∀ {b B off k:Nat} {cs:List SV},S.B b=some cs→G.box b=some B→off+k≤cs.length→∃ vs:List Value,vs.length=k∧(∀ j v,vs[j]?=some v→w.cell? ⟨B,off+j,none⟩=some v)∧∀ j (h:j<((cs.drop off).take k).length) (h':j<vs.length),(((cs.drop off).take k)[j]).cell=true∧VR G w ((cs.drop off).take k)[j] vs[j]:=by
    intro b B off k cs hb hg hk
    obtain⟨B',us,T,k1,k2,g3,g4,g5,gu,g6⟩:=h.box b cs hb (h.boxOf hb hg)
    obtain rfl:B=B':=Option.some.inj (hg.symm.trans k1)
    refine⟨(us.toList.drop off).take k,by simp;omega,fun j v hj=>?_,fun j hj hj'=>?_⟩
    · rw[cell_of_heap k2]
      rw[List.getElem?_take] at hj
      split at hj
      · simpa[List.getElem?_drop] using hj
      · cases hj
    · simp only[List.length_take,List.length_drop] at hj
      simp only[List.getElem_take,List.getElem_drop,Array.getElem_toList]
      exact g6 (off+j) (by omega) (by omega)
  have dat:(rowS t).map (fun p=>(p.1.map SV.d,p.2))=some (xs,m)→∃ By oy cy,u=.slice (some ⟨By,oy,none⟩) m cy ∧
      ∃ vs:List Value,vs.length=xs.length∧(∀ j v,vs[j]?=some v→w.cell? ⟨By,oy+j,none⟩=some v)∧∀ j (h:j<xs.length) (h':j<vs.length),(xs[j]).cell=true∧VR G w xs[j] vs[j]:=by
    intro hr
    simp only[Option.map_eq_some_iff,Prod.mk.injEq] at hr
    obtain⟨⟨ds,m'⟩,hrow,rfl,rfl⟩:=hr
    obtain⟨By,oy,cy,e2,_,vs,hvl,hvc,hvv⟩:=(rowS_ok hrow hv).cells (by simpa using hpos)
    refine⟨By,oy,cy,e2,vs,by simpa using hvl,fun j v hj=>(hvc j v hj).2,fun j hj hj'=>?_⟩
    have:=hvv j (by simpa using hj) hj'
    simp only[List.getElem_map]
    exact⟨this.1, .d this.2⟩
  cases t with
  | os b off n =>
    simp only[rowSV] at hr
    cases hb:S.B b with
    | none=>rw[hb] at hr;cases hr
    | some cs =>
      rw[hb] at hr
      simp only[rowB] at hr
      split at hr
      · rename_i hle
        cases hr
        obtain⟨B,c,hg,hn,rfl⟩:=hv.os_inv
        obtain⟨vs,v1,v2,v3⟩:=blk hb hg hle
        exact⟨B,off,c,rfl,vs,by rw[v1];simp;omega,v2,v3⟩
      · cases hr
  | sk b n sz' =>
    simp only[rowSV] at hr
    split at hr
    · cases hb:S.B b with
      | none=>rw[hb] at hr;cases hr
      | some cs =>
        rw[hb] at hr
        simp only[rowB] at hr
        split at hr
        · rename_i hle
          cases hr
          obtain⟨B,c,us,T,fr,hg,hn,rfl,hB,hroom⟩:=hv.sk_inv
          obtain⟨vs,v1,v2,v3⟩:=blk (off:=0) hb hg hle
          exact⟨B,0,c,rfl,vs,by rw[v1];simp;omega,v2,v3⟩
        · cases hr
    · cases hr
  | ls cs n =>
    simp only[rowSV,Option.some.injEq,Prod.mk.injEq] at hr
    obtain⟨rfl,rfl⟩:=hr
    cases hv with
    | ls us hn hc hk hv =>
    refine⟨_,_,_,rfl,(List.range cs.length).map us,by simp,fun j v hj=>?_,fun j hj hj'=>?_⟩
    · simp only[List.getElem?_map,Option.map_eq_some_iff] at hj
      obtain⟨k,hk1,rfl⟩:=hj
      obtain⟨hlt,he⟩:=List.getElem?_eq_some_iff.1 hk1
      simp only[List.getElem_range] at he
      subst he
      exact (hc j (by simpa using hlt)).2
    · simp only[List.getElem_map,List.getElem_range]
      exact⟨hk j hj,hv j hj⟩
  | d x=>exact dat hr
  | fl cs n=>exact dat hr
  | tp i q cs n=>exact dat hr
  | _=>exact dat hr
theorem does_slice_sk {T e:TypeId}{x:Operand}{hi:Option Operand}{b n sz sz':Nat}{u:Int} (ho:o.op=.slice T x none hi none) (h:Rel m0 w0 G E S F a w) (hx:evalO E x=some (.sk b n sz))
    (hT:P.underlying T=some (.slice e)) (hs:szOf P e=some sz') (hhi:bndS E n hi=some u) (c2:0≤u) (c3:u≤n):Does P m0 w0 G E S F a w o (.sk b u.toNat sz) S F:=by
  obtain⟨B,c,us,T',fr,hg,hc,hA,hB,hr⟩:=(evalO_ok h hx).sk_inv
  have hrun:=run_slice ho h hA hT hs (l:=0) (by rfl) hhi (Int.le_refl _) c2 (by omega)
  have e1:(if c=(0:Int).toNat then some (⟨B,0,none⟩:Addr) else (some (⟨B,0,none⟩:Addr)).map (·.add ((0:Int).toNat*sz')))=some ⟨B,0,none⟩:=by
    split
    · rfl
    · show some ((⟨B,0,none⟩:Addr).add _)=_
      rw[add_off];simp
  rw[e1] at hrun
  refine .quiet h hrun (.sk hg (by simp;omega) hB ?_)
  simpa using hr
theorem does_slice_skL {T e:TypeId}{x y:Operand}{hi:Option Operand}{b n sz sz':Nat}{l u:Int} (ho:o.op=.slice T x (some y) hi none) (h:Rel m0 w0 G E S F a w) (hx:evalO E x=some (.sk b n sz))
    (hT:P.underlying T=some (.slice e)) (hs:szOf P e=some sz') (hlo:bndS E 0 (some y)=some l) (hhi:bndS E n hi=some u) (h0:0≤l) (h1:l≤u) (h2:u≤n):Does P m0 w0 G E S F a w o (if l<u then .os b (l.toNat*sz') (u.toNat - l.toNat) else .d (.ps [] 0)) S F:=by
  obtain⟨B,c,us,T',fr,hg,hc,hA,hB,hr⟩:=(evalO_ok h hx).sk_inv
  have hrun:=run_slice ho h hA hT hs hlo hhi h0 h1 (by omega)
  have e1:(some ⟨B,0,none⟩:Option Addr).map (·.add (l.toNat*sz'))=some ⟨B,l.toNat*sz',none⟩:=by
    show some ((⟨B,0,none⟩:Addr).add _)=_
    rw[add_off,Nat.zero_add]
  by_cases hlt:l<u
  · rw[if_pos hlt]
    rw[if_neg (by omega),e1] at hrun
    exact .quiet h hrun (.os hg (by omega))
  · rw[if_neg hlt]
    have e2:u.toNat - l.toNat=0:=by omega
    rw[e2] at hrun
    refine .quiet h hrun (.d ?_)
    split
    · exact .part0 rfl
    · exact .part0 e1
theorem does_append_sk0 {x y:Operand}{T e:TypeId}{sz by_:Nat}{t:SV}{ds:List D}{b n sz':Nat} (ho:o.op=.call { callee:=.builtin .append,args:=#[x,y],argTypes:=#[T,T] }) (h:Rel m0 w0 G E S F a w)
    (hx:evalO E x=some (.sk b n sz')) (hy:evalO E y=some t) (ht:rowS t=some (ds,0)) (hT:appOf P T=some (e,sz,by_)):Does P m0 w0 G E S F a w o (.sk b n sz') S F:=by
  have hX:=evalO_ok h hx
  obtain⟨B,c,us,T',fr,hg,hc,hA,hB,hr⟩:=hX.sk_inv
  obtain⟨A',c',e2,_⟩:=(rowS_ok ht (evalO_ok h hy)).slice_inv
  refine .quiet h (u:=.slice (some ⟨B,0,none⟩) n c) (run_builtin_append ho hA e2 (run_append_none hT hc (by cases A'<;>simp))) (by rw[← hA];exact hX)
theorem does_buildSlice_sk {T e:TypeId}{n sz id:Nat}{ps:Array (Nat×Operand)}{zs cells:List D}{l:List (Nat×List D)} (ho:o.op=.buildSlice T n ps) (h:Rel m0 w0 G E S F a w) (hid:F id) (hu:P.underlying T=some (.slice e)) (hs:szOf P e=some sz)
    (hz:zeroD P e=some zs) (hzl:zs.length=sz) (hn:n*sz≤16777216) (hp:partsD E ps.toList=some l)
    (hf:fillL (fun i=>some (i*sz,sz)) ((List.range (n*sz)).map fun j=>zs.getD (j % sz) default) l=some cells) (hlen:n*sz≤cells.length):Does P m0 w0 G E S F a w o (.sk id n sz) (S.new id (cells.map .d)) (fun b=>F b∧b≠id):=by
  obtain⟨us,h1,h4,h5⟩:=run_buildSlice ho h hu hs hz hzl hn hp hf
  obtain⟨G',g1,f,g2⟩:=h.new_box (id:=id) hid (cells.map .d) us e (by simp;omega) (fun j hj hj'=>by
    have hj2:j<cells.length:=by simpa using hj
    have:=h5 j hj2 hj'
    simp only[List.getElem_map]
    exact⟨this.1, .d this.2⟩)
  exact⟨_,_,_,G',h1, .inl rfl, .sk g2 (Nat.le_refl n) heap_alloc_self (by omega),g1,f⟩
theorem does_buildSlice_skV {T e:TypeId}{n sz id:Nat}{ps:Array (Nat×Operand)}{zs cells:List SV}{l:List (Nat×List SV)} (ho:o.op=.buildSlice T n ps) (h:Rel m0 w0 G E S F a w) (hid:F id) (hu:P.underlying T=some (.slice e)) (hs:szOf P e=some sz)
    (hz:zeroCellsOf P e=some zs) (hzl:zs.length=sz) (hn:n*sz≤16777216) (hp:partsS E ps.toList=some l)
    (hf:fillL (fun i=>some (i*sz,sz)) ((List.range (n*sz)).map fun j=>zs.getD (j % sz) (.d (.v undef))) l=some cells) (hlen:n*sz≤cells.length):Does P m0 w0 G E S F a w o (.sk id n sz) (S.new id (cells)) (fun b=>F b∧b≠id):=by
  obtain⟨us,h1,h4,h5⟩:=run_buildSliceV ho h hu hs hz hzl hn hp hf
  obtain⟨G',g1,f,g2⟩:=h.new_box (id:=id) hid (cells) us e (by omega) (fun j hj hj'=>by
    exact h5 j hj hj')
  exact⟨_,_,_,G',h1, .inl rfl, .sk g2 (Nat.le_refl n) heap_alloc_self (by omega),g1,f⟩
theorem does_rowV {us:Array Value}{cs:List SV}{n c:Nat}{T:TypeId} (h:Rel m0 w0 G E S F a w) (hr:(execOp a.eval o).run P w=.ok (.value (.slice (some ⟨w.heap.size,0,none⟩) n c)) (w.alloc (.cells us T))) (hn:n≤c)
    (hl:us.size=cs.length) (hv:∀ j (h:j<cs.length) (h':j<us.size),(cs[j]).cell=true∧VR G w cs[j] us[j]):Does P m0 w0 G E S F a w o (.ls cs n) S F:=by
  let m':Nat→Nat:=fun B=>if B=w.heap.size then us.size else G.mark B
  have hb:Below w.heap.size w (w.alloc (.cells us T)):=(Below.refl _ _).alloc (Nat.le_refl _) _
  obtain⟨hr',f⟩:=h.called (m':=m') (fun B hB=>if_neg (by omega)) (fun B hB=>by simp at hB;show (if B=w.heap.size then us.size else G.mark B)=0;rw[if_neg (by omega)];exact h.new B (by omega)) (fun _ B hB hpos=>by
    by_cases e:B=w.heap.size
    · subst e;exact .inl ⟨us,T,heap_alloc_self⟩
    · have hpos:0<if B=w.heap.size then us.size else G.mark B:=hpos
      rw[if_neg e,h.new B hB] at hpos;exact absurd hpos (Nat.lt_irrefl _)) hb
  refine⟨_,_,_,_,hr, .inl rfl, .ls (fun j=>if hj:j<us.size then us[j] else undef) hn (fun j hj=>⟨?_,?_⟩) (fun j hj=>(hv j hj (by omega)).1) (fun j hj=>?_),hr',f⟩
  · show 0+j<if w.heap.size=w.heap.size then us.size else _
    rw[if_pos rfl];omega
  · rw[Nat.zero_add,World.cell?_alloc_new,dif_pos (show j<us.size by omega)]
    exact Array.getElem?_eq_getElem _
  · have hj':j<us.size:=by omega
    simp only[dif_pos hj']
    exact (hv j hj hj').2.fut f
theorem does_buildSlice_ls {T e:TypeId}{n sz:Nat}{ps:Array (Nat×Operand)}{zs cells:List SV}{l:List (Nat×List SV)} (ho:o.op=.buildSlice T n ps) (h:Rel m0 w0 G E S F a w) (hu:P.underlying T=some (.slice e)) (hs:szOf P e=some sz)
    (hz:zeroCellsOf P e=some zs) (hzl:zs.length=sz) (hn:n*sz≤16777216) (hp:partsS E ps.toList=some l)
    (hf:fillL (fun i=>some (i*sz,sz)) ((List.range (n*sz)).map fun j=>zs.getD (j % sz) (.d (.v undef))) l=some cells):Does P m0 w0 G E S F a w o (.ls cells n) S F:=by
  obtain⟨us,h1,h4,h5⟩:=run_buildSliceV ho h hu hs hz hzl hn hp hf
  exact does_rowV h h1 (Nat.le_refl n) h4 h5
theorem does_makeFunc {fn:Fn}{first caps:Array Operand}{xs ys:List SV} (ho:o.op=.makeFunc fn first caps) (h:Rel m0 w0 G E S F a w) (h1:(first.toList.map a.eval).length=xs.length) (h2:∀ j (hj:j<xs.length) (hj':j<(first.toList.map a.eval).length),VR G w xs[j] (first.toList.map a.eval)[j])
    (h3:(caps.toList.map a.eval).length=ys.length) (h4:∀ j (hj:j<ys.length) (hj':j<(caps.toList.map a.eval).length),VR G w ys[j] (caps.toList.map a.eval)[j]):Does P m0 w0 G E S F a w o (.fn fn xs ys) S F:=by
  refine .quiet h (u:=.func fn (first.toList.map a.eval).toArray (caps.toList.map a.eval).toArray) ?_ (.fn h1 h3 h2 h4)
  have e:∀ x:Array Operand,x.map a.eval=(x.toList.map a.eval).toArray:=fun x=>by cases x;simp
  simp only[execOp,ho,Instr.makeFunc,e]
  rfl
theorem heap_set_same {w:World}{B:Nat}{o':Obj} (h:B<w.heap.size):(w.heap.setIfInBounds B o')[B]?=some o':=by simp[h]
theorem heap_set_other {w:World}{B X:Nat}{o':Obj} (h:X≠B):(w.heap.setIfInBounds B o')[X]?=w.heap[X]?:=by simp[Ne.symm h]
theorem Rel.set_obj (h:Rel m0 w0 G E S F a w) {b B:Nat}{cs cs':List SV} (hb:S.B b=some cs) (hg:G.obj b=some B) {o':Obj} (hnc:∀ us T fr,o'≠.cells us T fr)
    (hv:∀ W,Fut G w G W→W.heap[B]?=some o'→ObjR G W cs' B) {W:World} (hW:W={ w with heap:=w.heap.setIfInBounds B o' }) :
    Rel m0 w0 G E (S.set b cs') F a W∧Fut G w G W:=by
  obtain⟨k1,k2,k3,k4⟩:=h.more.obj b cs B hb hg
  obtain⟨o0,ho0,hnc0⟩:=k4.other
  have hlt:=lt_of_heap ho0
  have hother:∀ X,X≠B→W.heap[X]?=w.heap[X]?:=fun X hX=>by subst hW;exact heap_set_other hX
  have hnew:W.heap[B]?=some o':=by subst hW;exact heap_set_same hlt
  have hsize:W.heap.size=w.heap.size:=by subst hW;simp
  have f:Fut G w G W:=by
    refine⟨fun _ _ h=>h,fun _ B v k cap h=>⟨B,v,k,cap,h,Nat.le_refl _,fun _=>⟨rfl,rfl,rfl,rfl⟩⟩,fun _=>Nat.le_refl _,fun X j hj=>?_,fun _ _ h=>h,fun X us T fr hX=>?_,fun X es c hX hh=>?_⟩
    · by_cases e:X=B
      · subst e;rw[k2] at hj;omega
      · simp only[World.cell?,hother X e]
    · by_cases e:X=B
      · subst e;rw[ho0] at hX;cases hX;exact absurd rfl (hnc0 _ _ _)
      · exact⟨us,(hother X e).trans hX,rfl⟩
    · by_cases e:X=B
      · subst e;rw[k2] at hX;omega
      · exact (hother X e).trans hh
  have keepB:∀ b',(S.set b cs').B b'≠none→S.B b'≠none:=fun b' hb'=>by
    by_cases e:b'=b
    · subst e;rw[hb];simp
    · simpa only [St.set,upd_ne S.B _ e] using hb'
  have hbel:Below w0.heap.size w0 W:=h.below.trans ⟨by subst hW;rfl,by subst hW;rfl,by subst hW;rfl,by omega,fun i hi=>hother i (by omega)⟩
  have hmok:S.gl cleanAt≠none→MOK G.mark W:=fun hgl X hX=>by
    have hne:X≠B:=fun e=>by subst e;rw[k2] at hX;omega
    rcases h.more.clean hgl X hX with ⟨us,T,h2⟩ | ⟨us,T,fr,h2,h3⟩ | ⟨es,c,h2⟩
    · exact .inl ⟨us,T,(hother X hne).trans h2⟩
    · exact .inr (.inl ⟨us,T,fr,(hother X hne).trans h2,h3⟩)
    · exact .inr (.inr ⟨es,c,(hother X hne).trans h2⟩)
  refine⟨⟨fun k s hk=>(h.env k s hk).fut f,h.size,h.few,fun b' cs2 hb' ho'=>?_,fun b1 b2 B' e1 e2=>h.inj b1 b2 B' (keepB b1 e1) (keepB b2 e2),fun i k sz hi=>?_,h.tinj,fun i B v k c hi=>by have:=h.tlt i B v k c hi;omega,fun i b' B v k c hi hb'=>h.tbox i b' B v k c hi (keepB b' hb'),h.fresh,fun i hi=>h.new i (by omega),h.low,hbel,h.defers,fun g x hg=>(h.glob g x hg).fut f,
    ⟨fun b' cs2 X hb' hx=>?_,fun b1 b2 X e1 e2 g1 g2=>h.more.oinj b1 b2 X (keepB b1 e1) (keepB b2 e2) g1 g2,h.more.ofresh,hmok⟩⟩,f⟩
  · have e:b'≠b:=fun e=>by subst e;rw[hg] at ho';cases ho'
    have hb2:S.B b'=some cs2:=by simpa only [St.set,upd_ne S.B _ e] using hb'
    obtain⟨B',us2,T'',g1,g2,g3,g4,g5,gu0,g6⟩:=h.box b' cs2 hb2 ho'
    have hne:B'≠B:=fun eq=>by subst eq;rw[ho0] at g2;cases g2;exact absurd rfl (hnc0 _ _ _)
    exact⟨B',us2,T'',g1,(hother B' hne).trans g2,g3,g4,g5,gu0,fun j hj hj'=>⟨(g6 j hj hj').1,(g6 j hj hj').2.fut f⟩⟩
  · obtain⟨B',v',us2,T'',cap,fr,g1,g2,g3,g4,g5,g6,g7,g8,g9⟩:=h.tip i k sz hi
    have hne:B'≠B:=fun eq=>by subst eq;rw[ho0] at g2;cases g2;exact absurd rfl (hnc0 _ _ _)
    exact⟨B',v',us2,T'',cap,fr,g1,(hother B' hne).trans g2,g3,g4,g5,g6,g7,g8,g9⟩
  · by_cases e:b'=b
    · subst e
      have e1:cs2=cs':=by have:=hb';simp only[St.set,upd_same,Option.some.injEq] at this;exact this.symm
      rw[hg] at hx;cases hx
      rw[e1]
      exact⟨k1,k2,k3,hv W f hnew⟩
    · have hb2:S.B b'=some cs2:=by simpa only [St.set,upd_ne S.B _ e] using hb'
      obtain⟨g1,g2,g3,g4⟩:=h.more.obj b' cs2 X hb2 hx
      have hne:X≠B:=fun eq=>by subst eq;exact e (h.more.oinj b' b X (by rw[hb2];simp) (by rw[hb];simp) hx hg)
      exact⟨g1,g2,g3,g4.fut f (hother X hne)⟩
theorem Rel.new_obj (h:Rel m0 w0 G E S F a w) {id:Nat} (hid:F id) (cs:List SV) (o':Obj) (hnc:∀ us T fr,o'≠.cells us T fr)
    (hv:∀ G' W,Fut G w G' W→W.heap[w.heap.size]?=some o'→ObjR G' W cs w.heap.size) :
    ∃ G',Rel m0 w0 G' E (S.new id cs) (fun b=>F b∧b≠id) a (w.alloc o')∧Fut G w G' (w.alloc o')∧G'.obj id=some w.heap.size:=by
  obtain⟨hf1,hf2⟩:=h.fresh id hid
  have hfo:=h.more.ofresh id hid
  have hk:=h.alloc o'
  have f:Fut G w { G with obj:=upd G.obj id w.heap.size } (w.alloc o'):=by
    refine Fut.mk' (calm_alloc w _) (fun _ _ h=>h) (fun _ B v k cap h=>⟨B,v,k,cap,h,Nat.le_refl _,fun _=>⟨rfl,rfl,rfl,rfl⟩⟩) (fun _=>Nat.le_refl _) (h.fut_alloc _).cell (fun b B hb=>?_)
    by_cases e:b=id
    · subst e;rw[hfo] at hb;cases hb
    · exact (upd_ne _ _ e).trans hb
  have oldB:∀ b,b≠id→∀ cs',(S.new id cs).B b=some cs'→S.B b=some cs':=fun b e cs' hb=>by simpa only [St.new,upd_ne S.B cs e] using hb
  have boxes:∀ b X,(S.new id cs).B b≠none→G.box b=some X→S.B b≠none:=fun b X hb hx=>by
    have e:b≠id:=fun e=>by rw[e,hf1] at hx;cases hx
    obtain⟨c',hc'⟩:=Option.ne_none_iff_exists'.1 hb
    rw[oldB b e c' hc'];simp
  refine⟨{ G with obj:=upd G.obj id w.heap.size },⟨fun k s hk=>(h.env k s hk).fut f,h.size,h.few,fun b cs' hb ho=>?_,fun b b' B hb hb' e1 e2=>h.inj b b' B (boxes b B hb e1) (boxes b' B hb' e2) e1 e2,fun i k sz hi=>?_,h.tinj,hk.tlt,fun i b B v k c hi hb e=>h.tbox i b B v k c hi (boxes b B hb e) e,fun b hb=>h.fresh b hb.1,hk.new,h.low,hk.below,h.defers,fun g x hg=>(h.glob g x hg).fut f,
    ⟨fun b cs' B hb hx=>?_,fun b b' B hb hb' e1 e2=>?_,fun b hb=>(upd_ne _ _ hb.2).trans (h.more.ofresh b hb.1),fun hgl=>hk.more.clean hgl⟩⟩,f,upd_same _ _ _⟩
  · have e:b≠id:=fun e=>by
      subst e
      have:(upd G.obj b w.heap.size) b=none:=ho
      rw[upd_same] at this;cases this
    have ho':G.obj b=none:=(upd_ne _ _ e).symm.trans ho
    obtain⟨B,us',T',h1,h2,h3,h4,h5,hu0,h6⟩:=h.box b cs' (oldB b e cs' hb) ho'
    exact⟨B,us',T',h1,(heap_alloc_lt (lt_of_heap h2)).trans h2,h3,h4,h5,hu0,fun j hj hj'=>⟨(h6 j hj hj').1,(h6 j hj hj').2.fut f⟩⟩
  · obtain⟨B,v,us',T',cap,fr,h1,h2,r⟩:=h.tip i k sz hi
    exact⟨B,v,us',T',cap,fr,h1,(heap_alloc_lt (lt_of_heap h2)).trans h2,r⟩
  · by_cases e:b=id
    · subst e
      have e1:cs'=cs:=by have:=hb;simp only[St.new,upd_same,Option.some.injEq] at this;exact this.symm
      have e2:some w.heap.size=some B:=(upd_same G.obj b w.heap.size).symm.trans hx
      cases e2
      rw[e1]
      exact⟨hf1,h.new _ (Nat.le_refl _),h.below.size,hv _ _ f heap_alloc_self⟩
    · have hx':G.obj b=some B:=(upd_ne _ _ e).symm.trans hx
      obtain⟨g1,g2,g3,g4⟩:=h.more.obj b cs' B (oldB b e cs' hb) hx'
      obtain⟨o0,ho0,_⟩:=g4.other
      exact⟨g1,g2,g3,g4.fut f (heap_alloc_lt (lt_of_heap ho0))⟩
  · have lt:∀ b B,b≠id→(S.new id cs).B b≠none→(upd G.obj id w.heap.size) b=some B→B<w.heap.size:=fun b B e hb hx=>by
      obtain⟨c',hc'⟩:=Option.ne_none_iff_exists'.1 hb
      obtain⟨_,_,_,g4⟩:=h.more.obj b c' B (oldB b e c' hc') ((upd_ne _ _ e).symm.trans hx)
      obtain⟨o0,ho0,_⟩:=g4.other
      exact lt_of_heap ho0
    have self:∀ B,(upd G.obj id w.heap.size) id=some B→w.heap.size=B:=fun B hx=>by rw[upd_same] at hx;exact Option.some.inj hx
    by_cases c1:b=id
    · by_cases c2:b'=id
      · rw[c1,c2]
      · exfalso
        subst c1
        have:=self B e1;have:=lt b' B c2 hb' e2;omega
    · by_cases c2:b'=id
      · exfalso
        subst c2
        have:=self B e2;have:=lt b B c1 hb e1;omega
      · have ne:∀ b,b≠id→(S.new id cs).B b≠none→S.B b≠none:=fun b e hb=>by
          obtain⟨c',hc'⟩:=Option.ne_none_iff_exists'.1 hb
          rw[oldB b e c' hc'];simp
        exact h.more.oinj b b' B (ne b c1 hb) (ne b' c2 hb') ((upd_ne _ _ c1).symm.trans e1) ((upd_ne _ _ c2).symm.trans e2)
theorem does_makeMap {T:TypeId}{id:Nat} (ho:o.op=.makeMap T none) (h:Rel m0 w0 G E S F a w) (hid:F id):Does P m0 w0 G E S F a w o (.mv id) (S.new id [.mc [] []]) (fun b=>F b∧b≠id):=by
  obtain⟨G',g1,f,g2⟩:=h.new_obj hid [.mc [] []] (.map #[] 0) (fun _ _ _ e=>by cases e) (fun G' W f hW=>.mp #[] hW rfl rfl (fun j hj=>by simp at hj) (fun j hj=>by simp at hj) (fun j hj=>by simp at hj))
  refine⟨_,_,_,G',?_, .inl rfl, .mv g2,g1,f⟩
  simp only[execOp,ho,Instr.makeMap]
  simp[newObj]
  rfl
def idxK:List D→ByteArray→Option (Option Nat)
  | [],_=>some none
  | .v (.string k)::ks,s=>if k=s then some (some 0) else (idxK ks s).map (·.map (·+1))
  | _,_=>none
theorem idxK_cons {x:D}{ks:List D}{s:ByteArray}{r:Option Nat} (h:idxK (x::ks) s=some r):∃ k,x=.v (.string k)∧((k=s∧r=some 0)∨(k≠s∧∃ r',idxK ks s=some r'∧r=r'.map (·+1))):=by
  unfold idxK at h
  split at h
  · rename_i e;cases e
  · rename_i k ks' e
    cases e
    refine⟨k,rfl,?_⟩
    split at h
    · simp only[Option.some.injEq] at h;exact .inl ⟨by assumption,h.symm⟩
    · simp only[Option.map_eq_some_iff] at h
      obtain⟨r',h1,h2⟩:=h
      exact .inr ⟨by assumption,r',h1,h2.symm⟩
  · cases h
theorem find_str:∀ {ks:List D}{es:List MapEntry}{s:ByteArray}{r:Option Nat} (i:Nat),idxK ks s=some r→es.length=ks.length→(∀ j (h:j<ks.length) (h':j<es.length),PV G.mark w ks[j] es[j].key) →
    (r=none∧Instr.findNow .string (.string s) es i=some none)∨∃ j,r=some j∧∃ hj:j<es.length,es[j].key=.string s∧Instr.findNow .string (.string s) es i=some (some (i+j,es[j].val))
  | [],es,s,r,i,h,hl,hk=>by
    have:es=[]:=by simpa using hl
    subst this
    simp only[idxK,Option.some.injEq] at h
    exact .inl ⟨h.symm,rfl⟩
  | x::ks,[],s,r,i,h,hl,hk=>by simp at hl
  | x::ks,e::es,s,r,i,h,hl,hk=>by
    obtain⟨k,hx,h⟩:=idxK_cons h
    have h0:PV G.mark w x e.key:=hk 0 (by simp) (by simp)
    have hkey:e.key=.string k:=by
      rw[hx] at h0
      exact (VR.v_inv (G:=G) (w:=w) (.d h0)).1
    have sn:Instr.sameNow .string (.string s) e.key=some (s == k):=by rw[hkey];rfl
    rcases h with ⟨hs,rfl⟩ | ⟨hs,r',h1,rfl⟩
    · refine .inr ⟨0,rfl,by simp,by simp[hkey,hs],?_⟩
      have:(s == k)=true:=(MapKept.bytes_beq _ _).2 hs.symm
      simp[Instr.findNow,sn,this]
    · have hb:(s == k)=false:=by
        cases hc:s == k with
        | false=>rfl
        | true=>exact absurd ((MapKept.bytes_beq _ _).1 hc).symm hs
      rcases find_str (i+1) h1 (by simpa using hl) (fun j hj hj'=>hk (j+1) (by simpa using hj) (by simpa using hj')) with ⟨rfl,h2⟩ | ⟨j,rfl,hj,h2,h3⟩
      · exact .inl ⟨rfl,by simp[Instr.findNow,sn,hb,h2]⟩
      · refine .inr ⟨j+1,rfl,by simpa using hj,by simpa using h2,?_⟩
        simp[Instr.findNow,sn,hb,h3];omega
def mapOf (P:Program) (T:TypeId):Option TypeId :=
  match P.underlying T with
  | some (.map k e)=>match P.underlying k with
    | some .string=>some e
    | _=>none
  | _=>none
theorem mapOf_ok {T e:TypeId} (h:mapOf P T=some e):∃ k,P.underlying T=some (.map k e)∧P.underlying k=some .string:=by
  unfold mapOf at h
  split at h
  · rename_i k e' hu
    split at h
    · rename_i hk;simp only[Option.some.injEq] at h;subst h;exact⟨k,hu,hk⟩
    · cases h
  · cases h
def lookR (P:Program) (e:TypeId) (v:Option SV) (ok:Bool):Option SV :=
  match v with
  | some v=>some (if ok then .tu [v, .d (.v (.bool true))] else v)
  | none=>(zeroS P e).map fun z=>if ok then .tu [z, .d (.v (.bool false))] else z
def lookS (P:Program) (T:TypeId) (ks:List D) (vs:List SV) (s:ByteArray) (ok:Bool):Option SV :=
  match mapOf P T,idxK ks s with
  | some e,some (some j)=>match vs[j]? with
    | some v=>lookR P e (some v) ok
    | none=>none
  | some e,some none=>lookR P e none ok
  | _,_=>none
theorem does_lookup_str {T:TypeId}{x y:Operand}{ok:Bool}{ks:List D}{vs:List SV}{es:Array MapEntry}{B c:Nat}{s:ByteArray}{r:SV} (ho:o.op=.lookup T x y ok) (h:Rel m0 w0 G E S F a w) (hx:a.eval x=.map (some B)) (hb:w.heap[B]?=some (.map es c))
    (hy:evalO E y=some (.d (.v (.string s)))) (h1:es.size=ks.length) (h2:es.size=vs.length) (hk:∀ j (h:j<ks.length) (h':j<es.size),PV G.mark w ks[j] es[j].key) (hv:∀ j (h:j<vs.length) (h':j<es.size),VR G w vs[j] es[j].val)
    (hr:lookS P T ks vs s ok=some r):Does P m0 w0 G E S F a w o r S F:=by
  unfold lookS at hr
  have key:∀ {e:TypeId} {i:Option Nat},mapOf P T=some e→idxK ks s=some i→∃ k,P.underlying T=some (.map k e)∧(Instr.checkKey es.isEmpty 10000 k (.string s)).run P w=.ok () w ∧
      ((i=none∧(Instr.findKey k (.string s) es.toList).run P w=.ok none w)∨∃ j,i=some j∧∃ hj:j<es.size,(Instr.findKey k (.string s) es.toList).run P w=.ok (some (j,es[j].val)) w):=by
    intro e i hT hi
    obtain⟨k,hu,hks⟩:=mapOf_ok hT
    refine⟨k,hu,MapKept.run_checkKey hks (by simp[MapKept.IsKey]) _ _,?_⟩
    rcases find_str (G:=G) (w:=w) (es:=es.toList) 0 hi (by simpa using h1) (fun j hj hj'=>by simpa using hk j hj (by simpa using hj')) with ⟨rfl,h3⟩ | ⟨j,rfl,hj,h3,h4⟩
    · exact .inl ⟨rfl,MapKept.run_findKey hks h3⟩
    · refine .inr ⟨j,rfl,by simpa using hj,?_⟩
      have:=MapKept.run_findKey (P:=P) (w:=w) hks h4
      simpa using this
  split at hr
  · rename_i e j hT hi
    obtain⟨k,hu,hck,hf⟩:=key hT hi
    obtain⟨j',e1,hj,hf⟩:=hf.resolve_left (fun q=>by cases q.1)
    cases e1
    split at hr
    · rename_i v hvj
      obtain⟨hjl,rfl⟩:=List.getElem?_eq_some_iff.1 hvj
      simp only[lookR,Option.some.injEq] at hr
      subst hr
      have hval:=hv j hjl hj
      cases ok with
      | false =>
        refine .quiet h (u:=es[j].val) ?_ (by simpa using hval)
        simp only[execOp,ho,hx,evalO_v h hy,Instr.lookup]
        simp[run_under hu,MapKept.run_getObj_map hb,hck,hf]
      | true =>
        refine .quiet h (u:=.tuple #[es[j].val, .bool true]) ?_ (by
          have:=VR.tu2 hval (VR.d (G:=G) (w:=w) (PV.v (x:=.bool true) rfl))
          simpa using this)
        simp only[execOp,ho,hx,evalO_v h hy,Instr.lookup]
        simp[run_under hu,MapKept.run_getObj_map hb,hck,hf]
    · cases hr
  · rename_i e hT hi
    obtain⟨k,hu,hck,hf⟩:=key hT hi
    obtain⟨_,hf⟩:=hf.resolve_right (fun ⟨j,e1,_⟩=>by cases e1)
    simp only[lookR,Option.map_eq_some_iff] at hr
    obtain⟨z,hz,rfl⟩:=hr
    obtain⟨u,hzu,hzv⟩:=zeroS_ok (G:=G) (w:=w) hz
    cases ok with
    | false =>
      refine .quiet h (u:=u) ?_ (by simpa using hzv)
      simp only[execOp,ho,hx,evalO_v h hy,Instr.lookup]
      simp[run_under hu,MapKept.run_getObj_map hb,hck,hf,run_zero hzu]
    | true =>
      refine .quiet h (u:=.tuple #[u, .bool false]) ?_ (by
        have:=VR.tu2 hzv (VR.d (G:=G) (w:=w) (PV.v (x:=.bool false) rfl))
        simpa using this)
      simp only[execOp,ho,hx,evalO_v h hy,Instr.lookup]
      simp[run_under hu,MapKept.run_getObj_map hb,hck,hf,run_zero hzu]
  · cases hr
theorem run_append_flV {x y:Operand}{T e:TypeId}{sz by_:Nat}{cs:List D}{n m By oy cy:Nat}{vs:List Value} (ho:o.op=.call { callee:=.builtin .append,args:=#[x,y],argTypes:=#[T,T] }) (h:Rel m0 w0 G E S F a w)
    (hx:evalO E x=some (.fl cs n)) (e2:a.eval y=.slice (some ⟨By,oy,none⟩) m cy) (hvc:∀ j v,vs[j]?=some v→w.cell? ⟨By,oy+j,none⟩=some v) (hT:appOf P T=some (e,sz,by_)) (hm:0<m) (hcs:cs.length=n*sz) (hvs:vs.length=m*sz)
    (hb:(n+m)*by_≤140737488355328) (hb2:n+m≤140737488355328):∃ (us:List Value) (zs:Array Value) (c:Nat),us.length=cs.length ∧
      (∀ j (h:j<cs.length) (h':j<us.length),(cs[j]).cell=true∧PV G.mark w cs[j] us[j])∧n+m≤c∧c*sz≤us.length+vs.length+zs.size ∧
      (execOp a.eval o).run P w=.ok (.value (.slice (some ⟨w.heap.size,0,none⟩) (n+m) c)) (w.drew.alloc (.cells (us.toArray++vs.toArray++zs) e)):=by
  obtain⟨hu,i,z,hi,hz,h1,h2,h3,h4⟩:=appOf_ok hT
  have hX:=evalO_ok h hx
  have hvc':∀ j v,vs[j]?=some v→w.cell? ((⟨By,oy,none⟩:Addr).add j)=some v:=fun j v hj=>by rw[add_off];exact hvc j v hj
  have hvl2:vs.length=m*i.size:=by rw[hvs,h2]
  generalize hA:a.eval x=A at hX
  cases hX with
  | fl hp hcap =>
    cases hp with
    | nil =>
      have hr:=run_append_nil (P:=P) w T o.type e i z hu hi hz ⟨By,oy,none⟩ m cy vs hvl2 hvc' hm (by omega) (by rw[h3];simp only[Nat.zero_add] at hb;omega)
      have hr2:=run_builtin_append ho hA e2 hr
      refine⟨[],Builtin.zeroCells z.cells (grownCap w m 0 e - m),grownCap w m 0 e,rfl,fun j hj=>by simp at hj,by have:=grownCap_ge w m 0 e;omega,?_,by simpa using hr2⟩
      have:=grownCap_ge w m 0 e
      rw[size_zeroCells,h1,hvs,List.length_nil,Nat.zero_add, ← Nat.add_mul]
      exact Nat.mul_le_mul_right _ (by omega)
    | pz hsp =>
      rename_i a0
      have hr:=run_append_grow (P:=P) w T o.type e i z hu hi hz a0 0 0 [] (by simp) (fun j v hj=>by simp at hj) ⟨By,oy,none⟩ m cy vs hvl2 hvc' (by omega) (by omega) (growslice_fits (by omega) (by rw[h3];simpa using hb))
      have hr2:=run_builtin_append ho hA e2 hr
      refine⟨[],_,_,by simp,fun j hj=>by simp at hj,grownCap_ge w (0+m) 0 e,?_,hr2⟩
      have:=grownCap_ge w (0+m) 0 e
      simp only[Nat.zero_add] at this ⊢
      rw[size_zeroCells,h1,hvs,List.length_nil,Nat.zero_add, ← Nat.add_mul]
      exact Nat.mul_le_mul_right _ (by omega)
    | ps us hn hc hk hv =>
      rename_i B o' c
      have hcn:c=n:=hcap _ _ _ rfl
      subst hcn
      have hr:=run_append_grow (P:=P) w T o.type e i z hu hi hz ⟨B,o',none⟩ c c ((List.range cs.length).map us) (by simp[hcs,h2]) (fun j v hj=>by
        obtain⟨hlt,he⟩:=List.getElem?_eq_some_iff.1 hj
        have hj2:j<cs.length:=by simpa using hlt
        rw[add_off,(hc j hj2).2]
        simpa using he) ⟨By,oy,none⟩ m cy vs hvl2 hvc' (by omega) (by omega) (growslice_fits (by omega) (by rw[h3];exact hb))
      have hr2:=run_builtin_append ho hA e2 hr
      refine⟨_,_,_,by simp,fun j hj hj'=>⟨hk j hj,by simpa using hv j hj⟩,grownCap_ge w (c+m) c e,?_,hr2⟩
      have:=grownCap_ge w (c+m) c e
      rw[size_zeroCells,h1,hvs,List.length_map,List.length_range,hcs, ← Nat.add_mul, ← Nat.add_mul]
      exact Nat.mul_le_mul_right _ (by omega)
theorem does_append_newV {x y:Operand}{T e:TypeId}{sz by_:Nat}{cs:List D}{xs:List SV}{n m id By oy cy:Nat}{vs:List Value} (ho:o.op=.call { callee:=.builtin .append,args:=#[x,y],argTypes:=#[T,T] }) (h:Rel m0 w0 G E S F a w) (hid:F id)
    (hx:evalO E x=some (.fl cs n)) (e2:a.eval y=.slice (some ⟨By,oy,none⟩) m cy) (hvl:vs.length=xs.length) (hvc:∀ j v,vs[j]?=some v→w.cell? ⟨By,oy+j,none⟩=some v) (hvv:∀ j (h:j<xs.length) (h':j<vs.length),(xs[j]).cell=true∧VR G w xs[j] vs[j]) (hT:appOf P T=some (e,sz,by_)) (hm:0<m) (hcs:cs.length=n*sz) (hds:xs.length=m*sz)
    (hbd:(n+m)*by_≤140737488355328) (hb2:n+m≤140737488355328):Does P m0 w0 G E S F a w o (.sk id (n+m) sz) (S.new id (cs.map .d++xs)) (fun b=>F b∧b≠id):=by
  obtain⟨us,zs,c,hul,huv,hc,hroom,hrun⟩:=run_append_flV ho h hx e2 hvc hT hm hcs (by omega) hbd hb2
  obtain⟨G',g1,f,g2⟩:=h.draw.new_box (id:=id) hid (cs.map .d++xs) (us.toArray++vs.toArray++zs) e (by simp[hul,hvl]) (fun j hj hj'=>by
    have hj2:j<cs.length+xs.length:=by simpa using hj
    by_cases e1:j<cs.length
    · have e3:(cs.map SV.d++xs)[j]=.d cs[j]:=by rw[List.getElem_append_left (by simpa using e1)];simp
      have e4:(us.toArray++vs.toArray++zs)[j]=us[j]:=by
        rw[Array.getElem_append_left (by simp;omega),Array.getElem_append_left (by simp;omega)];simp
      rw[e3,e4]
      obtain⟨k1,k2⟩:=huv j e1 (by omega)
      exact⟨k1, .d (k2.fut (fut_draw G w))⟩
    · have e3:(cs.map SV.d++xs)[j]=xs[j - cs.length]'(by omega):=by rw[List.getElem_append_right (by simp;omega)];simp
      have e4:(us.toArray++vs.toArray++zs)[j]=vs[j - cs.length]'(by omega):=by
        rw[Array.getElem_append_left (by simp;omega),Array.getElem_append_right (by simp;omega)];simp[hul]
      rw[e3,e4]
      obtain⟨k1,k2⟩:=hvv (j - cs.length) (by omega) (by omega)
      exact⟨k1,k2.fut (fut_draw G w)⟩)
  exact⟨_,_,_,G',hrun, .inl rfl, .sk g2 hc (heap_alloc_self (w:=w.drew)) (by simpa[Nat.add_assoc] using hroom),g1,(fut_draw G w).trans f⟩
theorem does_append_newD {x y:Operand}{T e:TypeId}{sz by_:Nat}{t:SV}{cs ds:List D}{n m id:Nat} (ho:o.op=.call { callee:=.builtin .append,args:=#[x,y],argTypes:=#[T,T] }) (h:Rel m0 w0 G E S F a w) (hid:F id)
    (hx:evalO E x=some (.fl cs n)) (hy:evalO E y=some t) (ht:rowS t=some (ds,m)) (hT:appOf P T=some (e,sz,by_)) (hm:0<m) (hcs:cs.length=n*sz) (hds:ds.length=m*sz)
    (hbd:(n+m)*by_≤140737488355328) (hb2:n+m≤140737488355328):Does P m0 w0 G E S F a w o (.sk id (n+m) sz) (S.new id (cs.map .d++ds.map .d)) (fun b=>F b∧b≠id):=by
  obtain⟨hu,i,z,hi,hz,h1,h2,h3,h4⟩:=appOf_ok hT
  have hdl:0<ds.length:=by rw[hds];exact Nat.mul_pos hm h4
  obtain⟨By,oy,cy,e2,_,vs,hvl,hvc,hvv⟩:=(rowS_ok ht (evalO_ok h hy)).cells hdl
  exact does_append_newV (vs:=vs) ho h hid hx e2 (by simpa using hvl) (fun j v hj=>(hvc j v hj).2) (fun j hj hj'=>by
    have:=hvv j (by simpa using hj) hj'
    simp only[List.getElem_map]
    exact⟨this.1, .d this.2⟩) hT hm hcs (by simpa using hds) hbd hb2
theorem does_make_sk {T e:TypeId}{x y:Operand}{k k':IntKind}{l c:Int}{i:TypeInfo}{zs:List SV}{id:Nat} (ho:o.op=.makeSlice T x y) (h:Rel m0 w0 G E S F a w) (hid:F id) (hx:evalO E x=some (.d (.v (.int k l)))) (hy:evalO E y=some (.d (.v (.int k' c))))
    (hT:P.underlying T=some (.slice e)) (hi:P.info? e=some i) (hz:zeroCellsOf P e=some zs) (hzl:zs.length=i.size) (h0:0≤l) (hlc:l≤c) (hb:(i.bytes:Int)*c≤281474976710656) (hl:c≤9223372036854775807) :
    Does P m0 w0 G E S F a w o (.sk id l.toNat i.size) (S.new id ((List.range (l.toNat*i.size)).map fun j=>zs.getD (j % i.size) (.d (.v undef)))) (fun b=>F b∧b≠id):=by
  obtain⟨z,h1,h2,h3⟩:=zeroCells_ok hz
  have hz':i.zero=some z:=by unfold zeroOf at h1;rw[hi] at h1;exact h1
  have hr:=run_make (P:=P) w T e i z hT hi hz' k k' l c h0 hlc hb hl
  have hrun:(execOp a.eval o).run P w=.ok (.value (.slice (some ⟨w.heap.size,0,none⟩) l.toNat c.toNat)) (w.alloc (.cells (madeCells z.cells (c.toNat*i.size)) e)):=by
    simp only[execOp,ho,evalO_v h hx,evalO_v h hy]
    rw[Sem.run_bind,hr];rfl
  have hle:l.toNat*i.size≤c.toNat*i.size:=Nat.mul_le_mul_right _ (by omega)
  obtain⟨G',g1,f,g2⟩:=h.new_box hid ((List.range (l.toNat*i.size)).map fun j=>zs.getD (j % i.size) (.d (.v undef))) (madeCells z.cells (c.toNat*i.size)) e (by simpa[size_madeCells] using hle) (fun j hj hj'=>by
    have hj2:j<l.toNat*i.size:=by simpa using hj
    have hsz:0<i.size:=by
      rcases Nat.eq_zero_or_pos i.size with e0 | e0
      · rw[e0] at hj2;simp at hj2
      · exact e0
    have hmod:j % i.size<zs.length:=by rw[hzl];exact Nat.mod_lt _ hsz
    have hzsz:z.cells.size=i.size:=by omega
    have:=h3 G w (j % i.size) hmod (by omega)
    simp only[List.getElem_map,List.getElem_range,madeCells,Array.getElem_map,Array.getElem_range,hzsz]
    rw[List.getD_eq_getElem?_getD,List.getElem?_eq_getElem hmod,Option.getD_some,getElem!_pos z.cells (j % i.size) (by omega)]
    exact this)
  exact⟨_,_,_,G',hrun, .inl rfl, .sk g2 (by omega) heap_alloc_self (by rw[size_madeCells];exact Nat.le_refl _),g1,f⟩
end
end Go.Sh
namespace Go.Sh
open Go.RowKit (Below)
section
variable {P:Program}{m0:Nat→Nat}{w0:World}{G:Gh}{E:Env}{S:St}{F:Nat→Prop}{a:Act}{w:World}{o:Oper}
theorem VR.mv_inv {b:Nat}{u:Value} (h:VR G w (.mv b) u):∃ B,G.obj b=some B∧u=.map (some B):=by
  cases h with
  | mv h=>exact⟨_,h,rfl⟩
theorem VR.iv_inv {b:Nat}{u:Value} (h:VR G w (.iv b) u):∃ B,G.obj b=some B∧u=.pointer (some ⟨B,0,none⟩):=by
  cases h with
  | iv h=>exact⟨_,h,rfl⟩
theorem PV.mp_inv {m:Nat→Nat}{ks vs:List D}{u:Value} (h:PV m w (.mp ks vs) u):∃ (B:Nat) (es:Array MapEntry),u=.map (some B)∧0<m B∧w.heap[B]?=some (.map es es.size)∧es.size=ks.length∧es.size=vs.length∧(∀ j (h:j<es.size),es[j].born=j) ∧
    (∀ j (h:j<ks.length) (h':j<es.size),PV m w ks[j] es[j].key)∧∀ j (h:j<vs.length) (h':j<es.size),PV m w vs[j] es[j].val:=by
  cases h with
  | mp es hm hb h1 h2 hborn hk hv=>exact⟨_,es,rfl,hm,hb,h1,h2,hborn,hk,hv⟩
theorem Rel.mapOf (h:Rel m0 w0 G E S F a w) {b B:Nat}{ks:List D}{vs:List SV} (hb:S.B b=some [.mc ks vs]) (hg:G.obj b=some B):∃ es:Array MapEntry,w.heap[B]?=some (.map es es.size)∧es.size=ks.length∧es.size=vs.length∧(∀ j (h:j<es.size),es[j].born=j) ∧
    (∀ j (h:j<ks.length) (h':j<es.size),PV G.mark w ks[j] es[j].key)∧∀ j (h:j<vs.length) (h':j<es.size),VR G w vs[j] es[j].val:=by
  obtain⟨_,_,_,k4⟩:=h.more.obj b _ B hb hg
  cases k4 with
  | mp es hb h1 h2 hborn hk hv=>exact⟨es,hb,h1,h2,hborn,hk,hv⟩
theorem does_lookup_var {T:TypeId}{x y:Operand}{ok:Bool}{b:Nat}{ks:List D}{vs:List SV}{s:ByteArray}{r:SV} (ho:o.op=.lookup T x y ok) (h:Rel m0 w0 G E S F a w) (hx:evalO E x=some (.mv b)) (hb:S.B b=some [.mc ks vs])
    (hy:evalO E y=some (.d (.v (.string s)))) (hr:lookS P T ks vs s ok=some r):Does P m0 w0 G E S F a w o r S F:=by
  obtain⟨B,hg,e⟩:=(evalO_ok h hx).mv_inv
  obtain⟨es,h1,h2,h3,h4,h5,h6⟩:=h.mapOf hb hg
  exact does_lookup_str ho h e h1 hy h2 h3 h5 h6 hr
theorem does_lookup_data {T:TypeId}{x y:Operand}{ok:Bool}{ks vs:List D}{s:ByteArray}{r:SV} (ho:o.op=.lookup T x y ok) (h:Rel m0 w0 G E S F a w) (hx:evalO E x=some (.d (.mp ks vs)))
    (hy:evalO E y=some (.d (.v (.string s)))) (hr:lookS P T ks (vs.map .d) s ok=some r):Does P m0 w0 G E S F a w o r S F:=by
  have hX:=evalO_ok h hx
  generalize hu:a.eval x=u at hX
  cases hX with
  | d hp =>
    obtain⟨B,es,rfl,hm,h1,h2,h3,h4,h5,h6⟩:=hp.mp_inv
    exact does_lookup_str ho h hu h1 hy h2 (by simpa using h3) h5 (fun j hj hj'=>by simp only[List.getElem_map];exact .d (h6 j (by simpa using hj) hj')) hr
theorem does_lookup_nil {T e:TypeId}{x y:Operand}{ok:Bool}{s:ByteArray}{r:SV} (ho:o.op=.lookup T x y ok) (h:Rel m0 w0 G E S F a w) (hx:evalO E x=some (.d (.v (.map none))))
    (hy:evalO E y=some (.d (.v (.string s)))) (hT:Sh.mapOf P T=some e) (hr:lookR P e none ok=some r):Does P m0 w0 G E S F a w o r S F:=by
  obtain⟨k,hu,hks⟩:=mapOf_ok hT
  simp only[lookR,Option.map_eq_some_iff] at hr
  obtain⟨z,hz,rfl⟩:=hr
  obtain⟨u,hzu,hzv⟩:=zeroS_ok (G:=G) (w:=w) hz
  have hck:=fun e=>MapKept.run_checkKey (P:=P) (w:=w) hks (k:=.string s) (by simp[MapKept.IsKey]) e 9999
  have hf:=MapKept.run_findKey (P:=P) (w:=w) (k:=.string s) (l:=[]) (a:=none) hks rfl
  cases ok with
  | false =>
    refine .quiet h (u:=u) ?_ (by simpa using hzv)
    simp only[execOp,ho,evalO_v h hx,evalO_v h hy,Instr.lookup]
    simp[run_under hu,hck,hf,run_zero hzu]
  | true =>
    refine .quiet h (u:=.tuple #[u, .bool false]) ?_ (by
      have:=VR.tu2 hzv (VR.d (G:=G) (w:=w) (PV.v (x:=.bool false) rfl))
      simpa using this)
    simp only[execOp,ho,evalO_v h hx,evalO_v h hy,Instr.lookup]
    simp[run_under hu,hck,hf,run_zero hzu]
theorem getElem_modify_born {es:Array MapEntry}{j:Nat}{f:MapEntry→MapEntry} (hf:∀ e,(f e).born=e.born) (hborn:∀ i (h:i<es.size),es[i].born=i):∀ i (h:i<(es.modify j f).size),(es.modify j f)[i].born=i:=by
  intro i hi
  have hi':i<es.size:=by simpa using hi
  rw[Array.getElem_modify]
  split
  · rw[hf];exact hborn i hi'
  · exact hborn i hi'
theorem ObjR.modify {W:World}{ks:List D}{vs:List SV}{B:Nat}{es:Array MapEntry}{j:Nat}{f:MapEntry→MapEntry}{v:SV} (hj:j<es.size) (hB:W.heap[B]?=some (.map (es.modify j f) es.size)) (h1:es.size=ks.length) (h2:es.size=vs.length) (hborn:∀ j (h:j<es.size),es[j].born=j)
    (hk:∀ j (h:j<ks.length) (h':j<es.size),PV G.mark W ks[j] es[j].key) (hv:∀ j (h:j<vs.length) (h':j<es.size),VR G W vs[j] es[j].val)
    (hf:∀ e,(f e).born=e.born) (hfk:(f es[j]).key=es[j].key) (hfv:VR G W v (f es[j]).val):ObjR G W [.mc ks (vs.set j v)] B:=by
  have hsz:(es.modify j f).size=es.size:=by simp
  refine .mp (es.modify j f) (by rw[hsz];exact hB) (by rw[hsz];exact h1) (by rw[hsz,List.length_set];exact h2) (getElem_modify_born hf hborn) (fun i hi hi'=>?_) (fun i hi hi'=>?_)
  · rw[Array.getElem_modify]
    split
    · rename_i e;subst e;rw[hfk];exact hk _ hi hj
    · exact hk i hi (by simpa using hi')
  · rw[Array.getElem_modify,List.getElem_set]
    split
    · rename_i e;subst e;exact hfv
    · exact hv i (by simpa using hi) (by simpa using hi')
theorem ObjR.push {W:World}{ks:List D}{vs:List SV}{B:Nat}{es:Array MapEntry}{k:D}{v:SV}{uk uv:Value} (hB:W.heap[B]?=some (.map (es.push { key:=uk,val:=uv,born:=es.size }) (es.size+1))) (h1:es.size=ks.length) (h2:es.size=vs.length) (hborn:∀ j (h:j<es.size),es[j].born=j)
    (hk:∀ j (h:j<ks.length) (h':j<es.size),PV G.mark W ks[j] es[j].key) (hv:∀ j (h:j<vs.length) (h':j<es.size),VR G W vs[j] es[j].val) (hk2:PV G.mark W k uk) (hv2:VR G W v uv):ObjR G W [.mc (ks++[k]) (vs++[v])] B:=by
  refine .mp (es.push { key:=uk,val:=uv,born:=es.size }) (by simpa using hB) (by simpa using h1) (by simpa using h2) (fun j hj=>?_) (fun j hj hj'=>?_) (fun j hj hj'=>?_)
  · rw[Array.getElem_push]
    split
    · rename_i h;exact hborn j h
    · have:j<es.size+1:=by simpa using hj
      show es.size=j
      omega
  · rw[Array.getElem_push]
    split
    · rename_i h;rw[List.getElem_append_left (by omega)];exact hk j (by omega) h
    · have:j<es.size+1:=by simpa using hj'
      rw[List.getElem_append_right (by omega)]
      simpa using hk2
  · rw[Array.getElem_push]
    split
    · rename_i h;rw[List.getElem_append_left (by omega)];exact hv j (by omega) h
    · have:j<es.size+1:=by simpa using hj'
      rw[List.getElem_append_right (by omega)]
      simpa using hv2
def updK (ks:List D) (vs:List SV) (s:ByteArray) (v:SV):Option SV :=
  match idxK ks s with
  | some (some j)=>some (.mc ks (vs.set j v))
  | some none=>some (.mc (ks++[.v (.string s)]) (vs++[v]))
  | none=>none
theorem does_mapUpdate {T e:TypeId}{x y z:Operand}{b:Nat}{ks:List D}{vs:List SV}{s:ByteArray}{v c:SV} (ho:o.op=.mapUpdate T x y z) (h:Rel m0 w0 G E S F a w) (hx:evalO E x=some (.mv b)) (hb:S.B b=some [.mc ks vs])
    (hy:evalO E y=some (.d (.v (.string s)))) (hz:evalO E z=some v) (hT:Sh.mapOf P T=some e) (hc:updK ks vs s v=some c):Does P m0 w0 G E S F a w o (.d (.v undef)) (S.set b [c]) F:=by
  obtain⟨B,hg,hX⟩:=(evalO_ok h hx).mv_inv
  obtain⟨es,h1,h2,h3,h4,h5,h6⟩:=h.mapOf hb hg
  obtain⟨k,hu,hks⟩:=mapOf_ok hT
  have hV:=evalO_ok h hz
  generalize hz':a.eval z=uv at hV
  have hck:=fun e=>MapKept.run_checkKey (P:=P) (w:=w) hks (k:=.string s) (by simp[MapKept.IsKey]) e 9999
  unfold updK at hc
  split at hc
  · rename_i j hi
    simp only[Option.some.injEq] at hc;subst hc
    rcases find_str (G:=G) (w:=w) (es:=es.toList) 0 hi (by simpa using h2) (fun j hj hj'=>by simpa using h5 j hj (by simpa using hj')) with ⟨e1,_⟩ | ⟨j',e1,hj,hkey,hf⟩
    · cases e1
    cases e1
    have hj2:j<es.size:=by simpa using hj
    have hkey2:es[j].key=.string s:=by simpa using hkey
    have hf2:=MapKept.run_findKey (P:=P) (w:=w) hks hf
    obtain⟨r1,f⟩:=h.set_obj hb hg (o':=.map (es.modify j fun e=>{ e with key:=.string s,val:=uv }) es.size) (cs':=[.mc ks (vs.set j v)]) (fun _ _ _ e=>by cases e) (fun W f hW=>ObjR.modify hj2 hW h2 h3 h4 (fun j hj hj'=>(h5 j hj hj').fut f) (fun j hj hj'=>(h6 j hj hj').fut f) (fun _=>rfl) hkey2.symm (hV.fut f)) rfl
    refine⟨_,undef,_,G,?_, .inr ⟨rfl,rfl⟩, .d (.v rfl),r1,f⟩
    have hst:=MapKept.run_keyThatStays (P:=P) (w:=w) (d:=.string) (k:=.string s) (by simp[MapKept.IsKey])
    simp only[execOp,ho,hX,evalO_v h hy,hz',Instr.mapUpdate]
    simp[run_under hu,MapKept.run_getObj_map h1,hck,hf2,hj2,hkey2,hst,MapKept.run_setObj_map _ h1]
  · rename_i hi
    simp only[Option.some.injEq] at hc;subst hc
    rcases find_str (G:=G) (w:=w) (es:=es.toList) 0 hi (by simpa using h2) (fun j hj hj'=>by simpa using h5 j hj (by simpa using hj')) with ⟨_,hf⟩ | ⟨j',e1,_⟩
    · have hf2:=MapKept.run_findKey (P:=P) (w:=w) hks hf
      obtain⟨r1,f⟩:=h.set_obj hb hg (o':=.map (es.push { key:=.string s,val:=uv,born:=es.size }) (es.size+1)) (cs':=[.mc (ks++[.v (.string s)]) (vs++[v])]) (fun _ _ _ e=>by cases e) (fun W f hW=>ObjR.push hW h2 h3 h4 (fun j hj hj'=>(h5 j hj hj').fut f) (fun j hj hj'=>(h6 j hj hj').fut f) (.v rfl) (hV.fut f)) rfl
      refine⟨_,undef,_,G,?_, .inr ⟨rfl,rfl⟩, .d (.v rfl),r1,f⟩
      simp only[execOp,ho,hX,evalO_v h hy,hz',Instr.mapUpdate]
      simp[run_under hu,MapKept.run_getObj_map h1,hck,hf2,MapKept.run_setObj_map _ h1]
    · cases e1
  · cases hc
def entK (P:Program) (e:TypeId) (ks:List D) (vs:List SV) (s:ByteArray):Option (SV×SV) :=
  match idxK ks s with
  | some (some j)=>match vs[j]? with
    | some v=>some (.tu [v, .d (.v (.int .i64 j))], .mc ks vs)
    | none=>none
  | some none=>(zeroS P e).map fun z=>(.tu [z, .d (.v (.int .i64 ks.length))], .mc (ks++[.v (.string s)]) (vs++[z]))
  | none=>none
theorem does_mapEntry {T e:TypeId}{x y:Operand}{b:Nat}{ks:List D}{vs:List SV}{s:ByteArray}{r c:SV} (ho:o.op=.mapEntry T x y) (h:Rel m0 w0 G E S F a w) (hx:evalO E x=some (.mv b)) (hb:S.B b=some [.mc ks vs])
    (hy:evalO E y=some (.d (.v (.string s)))) (hT:Sh.mapOf P T=some e) (hc:entK P e ks vs s=some (r,c)):Does P m0 w0 G E S F a w o r (S.set b [c]) F:=by
  obtain⟨B,hg,hX⟩:=(evalO_ok h hx).mv_inv
  obtain⟨es,h1,h2,h3,h4,h5,h6⟩:=h.mapOf hb hg
  obtain⟨k,hu,hks⟩:=mapOf_ok hT
  have hck:=fun e=>MapKept.run_checkKey (P:=P) (w:=w) hks (k:=.string s) (by simp[MapKept.IsKey]) e 9999
  unfold entK at hc
  split at hc
  · rename_i j hi
    split at hc
    · rename_i v hvj
      obtain⟨hjl,hve⟩:=List.getElem?_eq_some_iff.1 hvj
      simp only[Option.some.injEq,Prod.mk.injEq] at hc;obtain⟨rfl,rfl⟩:=hc
      rcases find_str (G:=G) (w:=w) (es:=es.toList) 0 hi (by simpa using h2) (fun j hj hj'=>by simpa using h5 j hj (by simpa using hj')) with ⟨e1,_⟩ | ⟨j',e1,hj,hkey,hf⟩
      · cases e1
      cases e1
      have hj2:j<es.size:=by simpa using hj
      have hkey2:es[j].key=.string s:=by simpa using hkey
      have hf2:=MapKept.run_findKey (P:=P) (w:=w) hks hf
      obtain⟨r1,f⟩:=h.set_obj hb hg (o':=.map (es.modify j fun e=>{ e with key:=.string s }) es.size) (cs':=[.mc ks vs]) (fun _ _ _ e=>by cases e) (fun W f hW=>by
        have:=ObjR.modify (v:=v) hj2 hW h2 h3 h4 (fun j hj hj'=>(h5 j hj hj').fut f) (fun j hj hj'=>(h6 j hj hj').fut f) (fun _=>rfl) hkey2.symm (by rw[← hve];exact (h6 j hjl hj2).fut f)
        rw[show vs.set j v=vs by rw[← hve];exact List.set_getElem_self hjl] at this
        exact this) rfl
      refine⟨_,_,_,G,?_, .inl rfl,VR.tu2 (u:=es[j].val) (v:=.int .i64 j) (by rw[← hve];exact (h6 j hjl hj2).fut f) (.d (.v rfl)),r1,f⟩
      have hst:=MapKept.run_keyThatStays (P:=P) (w:=w) (d:=.string) (k:=.string s) (by simp[MapKept.IsKey])
      simp only[execOp,ho,hX,evalO_v h hy,Instr.mapEntry]
      simp[run_under hu,MapKept.run_getObj_map h1,hck,hf2,hj2,hkey2,hst,MapKept.run_setObj_map _ h1,h4 j hj2,goInt]
    · cases hc
  · rename_i hi
    simp only[Option.map_eq_some_iff,Prod.mk.injEq] at hc
    obtain⟨z,hz,rfl,rfl⟩:=hc
    obtain⟨u,hzu,hzv⟩:=zeroS_ok (G:=G) (w:=w) hz
    rcases find_str (G:=G) (w:=w) (es:=es.toList) 0 hi (by simpa using h2) (fun j hj hj'=>by simpa using h5 j hj (by simpa using hj')) with ⟨_,hf⟩ | ⟨j',e1,_⟩
    · have hf2:=MapKept.run_findKey (P:=P) (w:=w) hks hf
      obtain⟨r1,f⟩:=h.set_obj hb hg (o':=.map (es.push { key:=.string s,val:=u,born:=es.size }) (es.size+1)) (cs':=[.mc (ks++[.v (.string s)]) (vs++[z])]) (fun _ _ _ e=>by cases e) (fun W f hW=>ObjR.push hW h2 h3 h4 (fun j hj hj'=>(h5 j hj hj').fut f) (fun j hj hj'=>(h6 j hj hj').fut f) (.v rfl) (hzv.fut f)) rfl
      refine⟨_,_,_,G,?_, .inl rfl,VR.tu2 (u:=u) (v:=.int .i64 ks.length) (hzv.fut f) (.d (.v rfl)),r1,f⟩
      simp only[execOp,ho,hX,evalO_v h hy,Instr.mapEntry]
      simp[run_under hu,MapKept.run_getObj_map h1,hck,hf2,run_zero hzu,MapKept.run_setObj_map _ h1,goInt,h2]
    · cases e1
  · cases hc
theorem does_entryStore {T:TypeId}{x y z:Operand}{b j:Nat}{ks:List D}{vs:List SV}{v:SV} (ho:o.op=.entryStore T x y z) (h:Rel m0 w0 G E S F a w) (hx:evalO E x=some (.mv b)) (hb:S.B b=some [.mc ks vs])
    (hy:evalO E y=some (.d (.v (.int .i64 j)))) (hz:evalO E z=some v) (hj:j<vs.length):Does P m0 w0 G E S F a w o (.d (.v undef)) (S.set b [.mc ks (vs.set j v)]) F:=by
  obtain⟨B,hg,hX⟩:=(evalO_ok h hx).mv_inv
  obtain⟨es,h1,h2,h3,h4,h5,h6⟩:=h.mapOf hb hg
  have hV:=evalO_ok h hz
  generalize hz':a.eval z=uv at hV
  have hj2:j<es.size:=by omega
  have hnd:(es.toList.map (·.born)).Nodup:=by
    have:es.toList.map (·.born)=List.range es.size:=by
      refine List.ext_getElem (by simp) (fun i hi hi'=>?_)
      simp only[List.getElem_map,Array.getElem_toList,List.getElem_range]
      exact h4 i (by simpa using hi)
    rw[this];exact List.nodup_range
  have hidx:es.findIdx? (fun e=>((e.born:Nat):Int) == ((j:Nat):Int))=some j:=by
    rw[WideElems.findIdx_arr]
    have:=WideElems.findIdx_born (l:=es.toList) hnd (j:=j) (e0:=es[j]) (by simp[hj2])
    rw[h4 j hj2] at this
    exact this
  obtain⟨r1,f⟩:=h.set_obj hb hg (o':=.map (es.modify j fun e=>{ e with val:=uv }) es.size) (cs':=[.mc ks (vs.set j v)]) (fun _ _ _ e=>by cases e) (fun W f hW=>ObjR.modify hj2 hW h2 h3 h4 (fun j hj hj'=>(h5 j hj hj').fut f) (fun j hj hj'=>(h6 j hj hj').fut f) (fun _=>rfl) rfl (hV.fut f)) rfl
  refine⟨_,undef,_,G,?_, .inr ⟨rfl,rfl⟩, .d (.v rfl),r1,f⟩
  simp only[execOp,ho,hX,evalO_v h hy,hz',Instr.entryStore]
  simp[MapKept.run_getObj_map h1,asInt,asIntOf,hidx,MapKept.run_setObj_map _ h1]
def isMap (P:Program) (T:TypeId):Bool:=match P.underlying T with | some (.map _ _)=>true | _=>false
theorem does_len_map {T:TypeId}{X:Operand}{B c:Nat}{es:Array MapEntry} (ho:o.op=.call { callee:=.builtin .len,args:=#[X],argTypes:=#[T] }) (h:Rel m0 w0 G E S F a w) (hX:a.eval X=.map (some B)) (hb:w.heap[B]?=some (.map es c))
    (hu:isMap P T=true):Does P m0 w0 G E S F a w o (.d (.v (.int .i64 es.size))) S F:=by
  obtain⟨k,e,hu⟩:∃ k e,P.underlying T=some (.map k e):=by unfold isMap at hu;split at hu<;>simp_all
  refine .quiet h (u:=.int .i64 es.size) ?_ (.d (.v rfl))
  simp only[execOp,ho]
  simp[resolve,invoke,builtin,Builtin.len_,hX,run_under hu,MapKept.run_getObj_map hb,goInt]
theorem does_range {T:TypeId}{x:Operand}{ks vs:List D}{id:Nat} (ho:o.op=.range T x) (h:Rel m0 w0 G E S F a w) (hid:F id) (hx:evalO E x=some (.d (.mp ks vs))) (hu:isMap P T=true) :
    Does P m0 w0 G E S F a w o (.iv id) (S.new id [.ic ks vs []]) (fun b=>F b∧b≠id):=by
  obtain⟨k,e,hu⟩:∃ k e,P.underlying T=some (.map k e):=by unfold isMap at hu;split at hu<;>simp_all
  have hX:=evalO_ok h hx
  generalize hxu:a.eval x=u at hX
  cases hX with
  | d hp =>
    obtain⟨B,es,rfl,hm,h1,h2,h3,h4,h5,h6⟩:=hp.mp_inv
    obtain⟨G',g1,f,g2⟩:=h.new_obj hid [.ic ks vs []] (.mapIter (some B) ks.length #[] ks.length) (fun _ _ _ e=>by cases e) (fun G' W f hW=>.it (by simpa using hW) (hp.fut f))
    refine⟨_,_,_,G',?_, .inl rfl, .iv g2,g1,f⟩
    have:=run_range_map (P:=P) w T k e B es es.size hu h1
    simp only[execOp,ho,hxu]
    rw[Sem.run_bind,this,h2];rfl
theorem left_mem {es:Array MapEntry}{seen:List Nat} (hborn:∀ j (h:j<es.size),es[j].born=j) {e:MapEntry} (he:e∈(leftOf es seen.toArray).toList):∃ j,∃ hj:j<es.size,e=es[j]∧j∉seen:=by
  obtain⟨h1,h2⟩:=mem_left he
  obtain⟨j,hj,rfl⟩:=List.getElem_of_mem h1
  have hj2:j<es.size:=by simpa using hj
  refine⟨j,hj2,by simp,?_⟩
  have e1:es.toList[j].born=j:=by simpa using hborn j hj2
  rw[e1] at h2
  simpa using h2
theorem does_next {x:Operand}{b:Nat}{ks vs:List D}{seen:List Nat} (ho:o.op=.next x false) (h:Rel m0 w0 G E S F a w) (hx:evalO E x=some (.iv b)) (hb:S.B b=some [.ic ks vs seen]) :
    (∃ (j:Nat) (hk:j<ks.length) (hv:j<vs.length),j∉seen∧Does P m0 w0 G E S F a w o (.tu [.d (.v (.bool true)), .d ks[j], .d vs[j]]) (S.set b [.ic ks vs (seen++[j])]) F) ∨
    ((∀ j,j<ks.length→j∈seen)∧Does P m0 w0 G E S F a w o (.tu [.d (.v (.bool false))]) S F):=by
  obtain⟨B,hg,hX⟩:=(evalO_ok h hx).iv_inv
  obtain⟨_,_,_,k4⟩:=h.more.obj b _ B hb hg
  cases k4 with
  | it hB hm =>
    rename_i M
    obtain⟨M',es,e1,hm0,h1,h2,h3,h4,h5,h6⟩:=hm.mp_inv
    cases e1
    have hlt:=lt_of_heap hB
    have hold:∀ y∈es.toList,y.born<ks.length:=fun y hy=>by
      obtain⟨j,hj,rfl⟩:=List.getElem_of_mem hy
      have hj2:j<es.size:=by simpa using hj
      have:=h4 j hj2
      simp only[Array.getElem_toList]
      omega
    have ntf:=next_test_false seen.toArray es ks.length ks.length hold (Nat.le_refl _)
    have mem:=fun {e:MapEntry}=>left_mem (es:=es) (seen:=seen) h4 (e:=e)
    have hall:(leftOf es seen.toArray).size=0→∀ j,j<ks.length→j∈seen:=fun h0 j hj=>by
      have:=all_seen es seen.toArray h0 es[j] (by simp)
      rw[h4 j (by omega)] at this
      simpa using this
    have hrun:∀ r W,(Instr.next (.pointer (some ⟨B,0,none⟩)) false o.type).run P w=.ok r W→(execOp a.eval o).run P w=.ok (.value r) W:=fun r W hr=>by
      simp only[execOp,ho,hX]
      rw[Sem.run_bind,hr];rfl
    have gB:(getObj B).run P w=.ok (.mapIter (some M) ks.length seen.toArray ks.length) w:=by simp[getObj,Sem.run,hB]
    have gM:(getObj M).run P w=.ok (.map es es.size) w:=MapKept.run_getObj_map h1
    have e1:(leftOf es seen.toArray).filter (fun x=>decide (x.born<ks.length))=leftOf es seen.toArray:=Array.filter_eq_self.2 (fun y hy=>by
      obtain⟨j,hj,rfl,_⟩:=mem (e:=y) (by simpa using hy)
      simpa[h4 j hj, ← h2] using hj)
    have e2:(leftOf es seen.toArray).filter (fun x=>decide (x.born≥ks.length)) = #[]:=by
      rw[Array.filter_eq_empty_iff]
      intro y hy
      obtain⟨j,hj,rfl,_⟩:=mem (e:=y) (by simpa using hy)
      rw[h4 j hj];simp;omega
    have e0:es.filter (fun e=>!seen.toArray.contains e.born)=leftOf es seen.toArray:=rfl
    by_cases h0:(leftOf es seen.toArray).size=0
    · refine .inr ⟨hall h0,?_⟩
      have hL:leftOf es seen.toArray = #[]:=Array.eq_empty_of_size_eq_zero h0
      refine .quiet h (u:=.tuple #[.bool false]) (hrun _ _ ?_) (by
        have:=VR.tu (G:=G) (w:=w) (cs:=[.d (.v (.bool false))]) (us:=[.bool false]) rfl (fun j hj hj'=>by
          have:j=0:=by simpa using hj
          subst this
          exact .d (.v rfl))
        exact this)
      simp only[Instr.next,Sem.run_bind,gB,gM,Result.andThen,ntf,Bool.false_eq_true,if_false,e0,e1,e2]
      rw[hL]
      simp[choose,Sem.run,Question.forced]
    · have hch:∃ (j:Nat) (w1:World),j<(leftOf es seen.toArray).size∧(w1=w∨w1=w.drew)∧(choose (Question.mapNext (leftOf es seen.toArray).size)).run P w=.ok j w1:=by
        by_cases hf:(leftOf es seen.toArray).size≤1
        · exact⟨0,w,by omega, .inl rfl,by simp[choose,Sem.run,Question.forced,hf]⟩
        · exact⟨_,w.drew,Nat.mod_lt _ (by omega), .inr rfl,by
            simp only[choose,Sem.run,Question.forced,decide_eq_true_eq,hf,if_false,Question.cut]
            rfl⟩
      obtain⟨i,w1,hi,hw1,hc⟩:=hch
      obtain⟨j,hj,hej,hns⟩:=mem (e:=(leftOf es seen.toArray)[i]) (by simp)
      have h1':Rel m0 w0 G E S F a w1∧Fut G w G w1∧w1.heap=w.heap:=by
        rcases hw1 with rfl | rfl
        · exact⟨h,Fut.refl _ _,rfl⟩
        · exact⟨h.draw,fut_draw G w,rfl⟩
      obtain⟨hr1,f1,hheap⟩:=h1'
      obtain⟨r2,f2⟩:=hr1.set_obj hb hg (o':=.mapIter (some M) ks.length (seen++[j]).toArray ks.length) (cs':=[.ic ks vs (seen++[j])]) (fun _ _ _ e=>by cases e) (fun W f hW=>.it hW (hm.fut (f1.trans f))) rfl
      refine .inl ⟨j,by omega,by omega,hns,_,_,_,G,hrun _ _ (?_:_=Result.ok (.tuple #[.bool true,es[j].key,es[j].val]) _), .inl rfl,?_,r2,f1.trans f2⟩
      · have hB1:w1.heap[B]?=some (.mapIter (some M) ks.length seen.toArray ks.length):=by rw[hheap];exact hB
        have hset:∀ o',(setObj B o').run P w1=.ok () { w1 with heap:=w1.heap.setIfInBounds B o' }:=fun o'=>by
          simp[setObj,Sem.run,hB1]
        have hne:(leftOf es seen.toArray).isEmpty=false:=by simp[Array.isEmpty,h0]
        simp only[Instr.next,Sem.run_bind,gB,gM,Result.andThen,ntf,Bool.false_eq_true,if_false,e0,e1,e2,hne,Array.append_empty,Array.empty_append,Array.size_map,hc,Array.getElem?_map,Array.getElem?_eq_getElem hi,Option.map_some,hset,hej]
        simp[h4 j hj,h2]
      · have:=VR.tu (G:=G) (w:={ w1 with heap:=w1.heap.setIfInBounds B (.mapIter (some M) ks.length (seen++[j]).toArray ks.length) }) (cs:=[.d (.v (.bool true)), .d ks[j], .d vs[j]]) (us:=[.bool true,es[j].key,es[j].val]) rfl (fun i hi hi'=>by
          match i,hi with
          | 0,_=>exact .d (.v rfl)
          | 1,_=>exact .d ((h5 j (by omega) hj).fut (f1.trans f2))
          | 2,_=>exact .d ((h6 j (by omega) hj).fut (f1.trans f2)))
        exact this
theorem does_entry {x:Operand}{b j:Nat}{ks vs:List D}{seen:List Nat} (ho:o.op=.entry x) (h:Rel m0 w0 G E S F a w) (hx:evalO E x=some (.iv b)) (hb:S.B b=some [.ic ks vs (seen++[j])]) (hk:j<ks.length) (hv:j<vs.length) :
    Does P m0 w0 G E S F a w o (.tu [.d ks[j], .d vs[j]]) S F:=by
  obtain⟨B,hg,hX⟩:=(evalO_ok h hx).iv_inv
  obtain⟨_,_,_,k4⟩:=h.more.obj b _ B hb hg
  cases k4 with
  | it hB hm =>
    rename_i M
    obtain⟨M',es,e1,hm0,h1,h2,h3,h4,h5,h6⟩:=hm.mp_inv
    cases e1
    have hj:j<es.size:=by omega
    have gB:(getObj B).run P w=.ok (.mapIter (some M) ks.length (seen++[j]).toArray ks.length) w:=by simp[getObj,Sem.run,hB]
    have gM:(getObj M).run P w=.ok (.map es es.size) w:=MapKept.run_getObj_map h1
    have hnd:(es.toList.map (·.born)).Nodup:=by
      have:es.toList.map (·.born)=List.range es.size:=by
        refine List.ext_getElem (by simp) (fun i hi hi'=>?_)
        simp only[List.getElem_map,Array.getElem_toList,List.getElem_range]
        exact h4 i (by simpa using hi)
      rw[this];exact List.nodup_range
    have hf:es.find? (·.born == j)=some es[j]:=by
      have:=find_born es[j] es.toList hnd (by simp)
      rw[h4 j hj,Array.find?_toList] at this
      exact this
    have hbk:(seen++[j]).toArray.back?=some j:=by simp
    refine .quiet h (u:=.tuple #[es[j].key,es[j].val]) ?_ (VR.tu2 (.d (h5 j hk hj)) (.d (h6 j hv hj)))
    simp only[execOp,ho,hX,Instr.entry]
    simp only[Sem.run_bind,gB,gM,Result.andThen,hbk,h2,bne_self_eq_false,Bool.false_eq_true,if_false,hf]
    rfl
end
end Go.Sh
namespace Go.Sh
open Go.RowKit (Below)
inductive Apart:D→D→Prop
  | v {x y:Value} (h:x≠y):Apart (.v x) (.v y)
  | len {cs cs':List D} {n n':Nat} (h:n≠n'):Apart (.ps cs n) (.ps cs' n')
  | ps {cs cs':List D} {n n' j:Nat} (hj:j<cs.length) (hj':j<cs'.length) (h:Apart cs[j] cs'[j]):Apart (.ps cs n) (.ps cs' n')
  | pp {cs cs':List D} {off off' j:Nat} (hj:off+j<cs.length) (hj':off'+j<cs'.length) (h:Apart cs[off+j] cs'[off'+j]):Apart (.pp cs off) (.pp cs' off')
  | agg {cs cs':List D} {j:Nat} (hj:j<cs.length) (hj':j<cs'.length) (h:Apart cs[j] cs'[j]):Apart (.agg cs) (.agg cs')
  | nilp {cs:List D} {off:Nat}:Apart (.v (.pointer none)) (.pp cs off)
  | pnil {cs:List D} {off:Nat}:Apart (.pp cs off) (.v (.pointer none))
theorem Apart.no {m:Nat→Nat}{w:World}{x y:D} (h:Apart x y):∀ {u:Value},PV m w x u→PV m w y u→False:=by
  induction h with
  | v h =>
    intro u h1 h2
    cases h1;cases h2;exact h rfl
  | len h =>
    intro u h1 h2
    cases h1<;>cases h2<;>exact h rfl
  | ps hj hj' h ih =>
    intro u h1 h2
    cases h1 with
    | nil=>simp at hj
    | pz _=>simp at hj
    | ps us hn hc hk hv =>
      cases h2 with
      | pz _=>simp at hj'
      | ps us' hn' hc' hk' hv' =>
        have e1:=(hc _ hj).2
        have e2:=(hc' _ hj').2
        rw[e1] at e2
        have:=Option.some.inj e2
        have a:=hv _ hj
        rw[this] at a
        exact ih a (hv' _ hj')
  | pp hj hj' h ih =>
    intro u h1 h2
    generalize hu:u=u' at h2
    cases h1 with
    | pp us hc hk hv =>
      cases h2 with
      | pp us' hc' hk' hv' =>
        simp only[Value.pointer.injEq,Option.some.injEq,Addr.mk.injEq] at hu
        obtain⟨rfl,e,_⟩:=hu
        have e1:=(hc _ hj).2
        have e2:=(hc' _ hj').2
        rw[← Nat.add_assoc] at e1 e2
        rw[e,e2] at e1
        have:=Option.some.inj e1
        have a:=hv' _ hj'
        rw[this] at a
        exact ih (hv _ hj) a
      | _=>cases hu
  | agg hj hj' h ih =>
    intro u h1 h2
    generalize hu:u=u' at h2
    cases h1 with
    | agg hl hk hv =>
      cases h2 with
      | agg hl' hk' hv' =>
        simp only[Value.agg.injEq] at hu
        have:=congrArg Array.toList hu
        simp at this
        subst this
        exact ih (hv _ hj (by omega)) (hv' _ hj' (by omega))
  | nilp =>
    intro u h1 h2
    cases h1 with
    | v h=>cases h2
  | pnil =>
    intro u h1 h2
    cases h2 with
    | v h=>cases h1
section
variable {P:Program}{m0:Nat→Nat}{w0:World}{G:Gh}{E:Env}{S:St}{F:Nat→Prop}{a:Act}{w:World}{o:Oper}
def ptrT (P:Program) (T:TypeId):Bool:=match P.underlying T with | some (.pointer e)=>(match P.info? e with | some i=>decide (i.size≠0) | none=>false) | _=>false
def intT (P:Program) (T:TypeId):Bool:=match P.underlying T with | some (.int _)=>true | _=>false
def spanT (P:Program) (T:TypeId):Bool:=match P.underlying T with
  | some (.struct fs)=>match fs.toList with
    | [f, g] => f.name != "_" && g.name != "_" && ptrT P f.type && intT P g.type && f.offset == 0 && g.offset == 1 && !P.stoodInHeld T && szOf P T == some 2 && !P.eqGuardType P.depth T
    | _=>false
  | _=>false
def metT (P:Program) (T:TypeId):Bool:=match P.underlying T with
  | some (.struct fs)=>match fs.toList with
    | [f, g] => f.name != "_" && g.name != "_" && spanT P f.type && spanT P g.type && f.offset == 0 && g.offset == 2 && !P.stoodInHeld T
    | _=>false
  | _=>false
def ptrD:D→Bool
  | .v (.pointer none)=>true
  | .pp cs off=>(match cs[off]? with | some (.v (.int .i64 _))=>true | _=>false)
  | _=>false
def intD:D→Bool
  | .v (.int .i64 _)=>true
  | _=>false
def keyD (P:Program) (T:TypeId) (x:D):Bool:=match x with
  | .agg [p,n]=>spanT P T&&ptrD p&&intD n
  | .agg [p,n,q,k]=>metT P T&&ptrD p&&intD n&&ptrD q&&intD k
  | _=>false
theorem ptrT_ok {T:TypeId} (h:ptrT P T=true):∃ e i,P.underlying T=some (.pointer e)∧P.info? e=some i∧i.size≠0:=by
  cases hu:P.underlying T with
  | none=>simp[ptrT,hu] at h
  | some d =>
    cases d with
    | pointer e =>
      cases hi:P.info? e with
      | none=>simp[ptrT,hu,hi] at h
      | some i=>exact⟨e,i,rfl,hi,by simpa[ptrT,hu,hi] using h⟩
    | _=>simp[ptrT,hu] at h
theorem intT_ok {T:TypeId} (h:intT P T=true):∃ k,P.underlying T=some (.int k):=by
  cases hu:P.underlying T with
  | none=>simp[intT,hu] at h
  | some d =>
    cases d with
    | int k=>exact⟨k,rfl⟩
    | _=>simp[intT,hu] at h
theorem ptrD_pp {cs:List D}{off:Nat} (h:ptrD (.pp cs off)=true):∃ n,cs[off]?=some (.v (.int .i64 n)):=by
  simp only[ptrD] at h
  split at h
  · exact⟨_,by assumption⟩
  · cases h
def EqAt (P:Program) (w:World) (d:Nat) (T:TypeId) (u v:Value):Prop:=∃ b,(∀ k,(Op.equalIn (k+d) T u v).run P w=.ok b w)∧(b=true→u=v)
theorem ptr_clean {m:Nat→Nat}{cs:List D}{off:Nat}{A:Addr} (hm:MOK m w) (hx:ptrD (.pp cs off)=true) (h:PV m w (.pp cs off) (.pointer (some A))):∃ us T,w.heap[A.block]?=some (.cells us T (0,0)):=by
  cases h with
  | pp us hc hk hv =>
    rename_i B o'
    obtain⟨n,hcs⟩:=ptrD_pp hx
    · obtain⟨hlt,he⟩:=List.getElem?_eq_some_iff.1 hcs
      obtain⟨h1,h2⟩:=hc off hlt
      have hval:=hv off hlt
      rw[he] at hval
      have hu:us off=.int .i64 n:=(VR.v_inv (G:=⟨fun _=>none,fun _=>none,m,fun _=>none⟩) (w:=w) (.d hval)).1
      rw[hu] at h2
      rcases hm B (by omega) with ⟨us',T,h3⟩ | ⟨us',T,fr,h3,h4⟩ | ⟨es,c,h3⟩
      · exact⟨us',T,h3⟩
      · obtain⟨k,hk4⟩:=h4 _ h1
        rw[cellS_of h3,hk4] at h2
        cases h2
      · simp[World.cell?,h3] at h2
theorem ptr_shape {m:Nat→Nat}{x:D}{u:Value} (hm:MOK m w) (hx:ptrD x=true) (h:PV m w x u):u=.pointer none∨∃ A,u=.pointer (some A)∧∃ us T,w.heap[A.block]?=some (.cells us T (0,0)):=by
  cases x with
  | v x =>
    have e:=(VR.v_inv (G:=⟨fun _=>none,fun _=>none,m,fun _=>none⟩) (w:=w) (.d h)).1
    subst e
    cases u with
    | pointer A =>
      cases A with
      | none=>exact .inl rfl
      | some A=>simp[ptrD] at hx
    | _=>simp[ptrD] at hx
  | pp cs off =>
    have hc:=fun A=>ptr_clean (A:=A) hm hx
    cases h with
    | pp us hcc hk hv=>exact .inr ⟨_,rfl,hc _ (.pp us hcc hk hv)⟩
  | _=>simp[ptrD] at hx
theorem ptr_eq {m:Nat→Nat}{T:TypeId}{x y:D}{u v:Value} (hT:ptrT P T=true) (hm:MOK m w) (hx:ptrD x=true) (hy:ptrD y=true) (h1:PV m w x u) (h2:PV m w y v):EqAt P w 1 T u v:=by
  obtain⟨e,i,hu,hi,hsz⟩:=ptrT_ok hT
  have nil1:∀ c,EqAt P w 1 T (.pointer none) (.pointer c):=fun c=>⟨c.isNone,fun k=>by simp[Op.equalIn,run_under hu],fun h=>by cases c<;>simp_all⟩
  have nil2:∀ A,EqAt P w 1 T (.pointer (some A)) (.pointer none):=fun A=>⟨false,fun k=>by simp[Op.equalIn,run_under hu],fun h=>by cases h⟩
  have both:∀ A B:Addr,(∃ us T,w.heap[A.block]?=some (.cells us T (0,0)))→(∃ us T,w.heap[B.block]?=some (.cells us T (0,0)))→EqAt P w 1 T (.pointer (some A)) (.pointer (some B)):=fun A B hA hB=>by
    by_cases e1:A=B
    · subst e1
      exact⟨true,fun k=>by simp[Op.equalIn,run_under hu,sizeOf,typeInfo,hi,run_sameAddr_same],fun _=>rfl⟩
    · obtain⟨us,T1,hA⟩:=hA
      obtain⟨us',T2,hB⟩:=hB
      exact⟨false,fun k=>by simp[Op.equalIn,run_under hu,sizeOf,typeInfo,hi,hsz,run_sameAddr_other w e1 hA hB],fun h=>by cases h⟩
  have shape:∀ {x:D} {u:Value},ptrD x=true→PV m w x u→u=.pointer none∨∃ A,u=.pointer (some A)∧∃ us T,w.heap[A.block]?=some (.cells us T (0,0)):=fun hx h=>ptr_shape hm hx h
  rcases shape hx h1 with rfl | ⟨A,rfl,hA⟩
  · rcases shape hy h2 with rfl | ⟨B,rfl,hB⟩
    · exact nil1 _
    · exact nil1 _
  · rcases shape hy h2 with rfl | ⟨B,rfl,hB⟩
    · exact nil2 _
    · exact both A B hA hB
theorem intD_inv {m:Nat→Nat}{x:D}{u:Value} (hx:intD x=true) (h:PV m w x u):∃ n,u=.int .i64 n:=by
  unfold intD at hx
  split at hx
  · rename_i n
    exact⟨n,(VR.v_inv (G:=⟨fun _=>none,fun _=>none,m,fun _=>none⟩) (w:=w) (.d h)).1⟩
  · cases hx
theorem int_eq {m:Nat→Nat}{T:TypeId}{x y:D}{u v:Value} (hT:intT P T=true) (hx:intD x=true) (hy:intD y=true) (h1:PV m w x u) (h2:PV m w y v):EqAt P w 1 T u v:=by
  obtain⟨k,hu⟩:=intT_ok hT
  obtain⟨n,rfl⟩:=intD_inv hx h1
  obtain⟨n',rfl⟩:=intD_inv hy h2
  exact⟨n == n',fun d=>run_equalIn_int w d T .i64 k n n' hu,fun h=>by rw[beq_iff_eq.1 h]⟩
theorem run_part_leaf {T:TypeId}{d:TypeDesc} (hd:P.underlying T=some d) (hs:∀ fs,d≠.struct fs) (ha:∀ n e,d≠.array n e) {us:Array Value}{off:Nat}{u:Value} (h:us[off]?=some u):(part T us off).run P w=.ok u w:=by
  have:(isAgg T).run P w=.ok false w:=by
    rw[run_isAgg hd]
    cases d<;>first | rfl | exact absurd rfl (hs _) | exact absurd rfl (ha _ _)
  simp[part,this,h]
theorem run_part_struct {T:TypeId}{fs:Array Field}{n:Nat} (hd:P.underlying T=some (.struct fs)) (hn:szOf P T=some n) {us:Array Value}{off:Nat}:(part T us off).run P w=.ok (.agg (us.extract off (off+n))) w:=by
  have:(isAgg T).run P w=.ok true w:=by rw[run_isAgg hd]
  simp[part,this,run_size hn]
theorem two_eq {d : Nat} {T : TypeId} {f g : Field} {xs ys : Array Value} {u1 v1 u2 v2 : Value} (hu : ∃ fs, P.underlying T = some (.struct fs) ∧ fs.toList = [f, g]) (hf : f.name ≠ "_") (hg : g.name ≠ "_") (hst : P.stoodInHeld T = false)
    (p1:(part f.type xs f.offset).run P w=.ok u1 w) (p2:(part f.type ys f.offset).run P w=.ok v1 w) (p3:(part g.type xs g.offset).run P w=.ok u2 w) (p4:(part g.type ys g.offset).run P w=.ok v2 w)
    (e1:EqAt P w d f.type u1 v1) (e2:EqAt P w d g.type u2 v2) (hall:u1=v1→u2=v2→xs=ys):EqAt P w (d+1) T (.agg xs) (.agg ys):=by
  obtain⟨fs,hu,hl⟩:=hu
  have hfo:P.fieldsOf T=fs:=by unfold Program.fieldsOf;rw[hu]
  obtain⟨b1,r1,i1⟩:=e1
  obtain⟨b2,r2,i2⟩:=e2
  refine⟨b1&&b2,fun k=>?_,fun h=>?_⟩
  · rw[show k+(d+1)=(k+d)+1 by omega,run_equalIn_struct w (k+d) T xs ys (by rw[hfo];exact hu) hst,hfo,hl]
    simp only[Op.eqFields,if_pos hf,if_pos hg,Sem.run_bind,p1,p2,r1,Result.andThen]
    cases b1<;>cases b2<;>simp[r2,p3,p4]
  · simp only[Bool.and_eq_true] at h
    rw[hall (i1 h.1) (i2 h.2)]
theorem spanT_ok {T : TypeId} (h : spanT P T = true) : ∃ (fs : Array Field) (f g : Field), P.underlying T = some (.struct fs) ∧ fs.toList = [f, g] ∧ f.name ≠ "_" ∧ g.name ≠ "_" ∧ ptrT P f.type = true ∧ intT P g.type = true ∧ f.offset = 0 ∧ g.offset = 1 ∧ P.stoodInHeld T = false ∧ szOf P T = some 2 ∧ P.eqGuardType P.depth T = false := by
  unfold spanT at h
  split at h
  · rename_i fs hu
    split at h
    · rename_i f g hl
      simp only[Bool.and_eq_true,bne_iff_ne,ne_eq,beq_iff_eq,Bool.not_eq_true'] at h
      obtain⟨⟨⟨⟨⟨⟨⟨⟨h1,h2⟩,h3⟩,h4⟩,h5⟩,h6⟩,h7⟩,h8⟩,h9⟩:=h
      exact⟨fs,f,g,hu,hl,h1,h2,h3,h4,h5,h6,h7,h8,h9⟩
    · cases h
  · cases h
theorem metT_ok {T : TypeId} (h : metT P T = true) : ∃ (fs : Array Field) (f g : Field), P.underlying T = some (.struct fs) ∧ fs.toList = [f, g] ∧ f.name ≠ "_" ∧ g.name ≠ "_" ∧ spanT P f.type = true ∧ spanT P g.type = true ∧ f.offset = 0 ∧ g.offset = 2 ∧ P.stoodInHeld T = false := by
  unfold metT at h
  split at h
  · rename_i fs hu
    split at h
    · rename_i f g hl
      simp only[Bool.and_eq_true,bne_iff_ne,ne_eq,beq_iff_eq,Bool.not_eq_true'] at h
      obtain⟨⟨⟨⟨⟨⟨h1,h2⟩,h3⟩,h4⟩,h5⟩,h6⟩,h7⟩:=h
      exact⟨fs,f,g,hu,hl,h1,h2,h3,h4,h5,h6,h7⟩
    · cases h
  · cases h
theorem ptrT_under {T:TypeId} (h:ptrT P T=true):∃ d,P.underlying T=some d∧(∀ fs,d≠.struct fs)∧∀ n e,d≠.array n e:=by
  obtain⟨e,_,hu,_⟩:=ptrT_ok h
  exact⟨_,hu,nofun,nofun⟩
theorem intT_under {T:TypeId} (h:intT P T=true):∃ d,P.underlying T=some d∧(∀ fs,d≠.struct fs)∧∀ n e,d≠.array n e:=by
  obtain⟨e,hu⟩:=intT_ok h
  exact⟨_,hu,nofun,nofun⟩
theorem span_eq {m:Nat→Nat}{T:TypeId}{p n p' n':D}{u1 u2 v1 v2:Value} (hT:spanT P T=true) (hm:MOK m w) (hp:ptrD p=true) (hn:intD n=true) (hp':ptrD p'=true) (hn':intD n'=true)
    (h1:PV m w p u1) (h2:PV m w n u2) (h3:PV m w p' v1) (h4:PV m w n' v2):EqAt P w 2 T (.agg #[u1,u2]) (.agg #[v1,v2]):=by
  obtain⟨fs,f,g,hu,hl,hf,hg,hpt,hit,hf0,hg1,hst,_,_⟩:=spanT_ok hT
  obtain⟨d1,k1,k2,k3⟩:=ptrT_under hpt
  obtain⟨d2,l1,l2,l3⟩:=intT_under hit
  refine two_eq (d:=1) ⟨fs,hu,hl⟩ hf hg hst (run_part_leaf k1 k2 k3 (by rw[hf0];rfl)) (run_part_leaf k1 k2 k3 (by rw[hf0];rfl)) (run_part_leaf l1 l2 l3 (by rw[hg1];rfl)) (run_part_leaf l1 l2 l3 (by rw[hg1];rfl)) (ptr_eq hpt hm hp hp' h1 h3) (int_eq hit hn hn' h2 h4) (fun e1 e2=>by rw[e1,e2])
theorem met_eq {m:Nat→Nat}{T:TypeId}{p n q k p' n' q' k':D}{u1 u2 u3 u4 v1 v2 v3 v4:Value} (hT:metT P T=true) (hm:MOK m w) (hp:ptrD p=true) (hn:intD n=true) (hq:ptrD q=true) (hk:intD k=true) (hp':ptrD p'=true) (hn':intD n'=true) (hq':ptrD q'=true) (hk':intD k'=true)
    (h1:PV m w p u1) (h2:PV m w n u2) (h3:PV m w q u3) (h4:PV m w k u4) (g1:PV m w p' v1) (g2:PV m w n' v2) (g3:PV m w q' v3) (g4:PV m w k' v4):EqAt P w 3 T (.agg #[u1,u2,u3,u4]) (.agg #[v1,v2,v3,v4]):=by
  obtain⟨fs,f,g,hu,hl,hf,hg,hpt,hit,hf0,hg1,hst⟩:=metT_ok hT
  obtain⟨fs1,_,_,hu1,_,_,_,_,_,_,_,_,hs1,_⟩:=spanT_ok hpt
  obtain⟨fs2,_,_,hu2,_,_,_,_,_,_,_,_,hs2,_⟩:=spanT_ok hit
  have e1:∀ a b c d:Value,(part f.type #[a,b,c,d] f.offset).run P w=.ok (.agg #[a,b]) w:=fun a b c d=>by rw[run_part_struct hu1 hs1,hf0];rfl
  have e2:∀ a b c d:Value,(part g.type #[a,b,c,d] g.offset).run P w=.ok (.agg #[c,d]) w:=fun a b c d=>by rw[run_part_struct hu2 hs2,hg1];rfl
  refine two_eq (d:=2) ⟨fs,hu,hl⟩ hf hg hst (e1 _ _ _ _) (e1 _ _ _ _) (e2 _ _ _ _) (e2 _ _ _ _) (span_eq hpt hm hp hn hp' hn' h1 h2 g1 g2) (span_eq hit hm hq hk hq' hk' h3 h4 g3 g4) (fun e1 e2=>?_)
  simp only[Value.agg.injEq,Array.mk.injEq,List.cons.injEq,and_true] at e1 e2
  rw[e1.1,e1.2,e2.1,e2.2]
theorem agg2 {m:Nat→Nat}{p n:D}{u:Value} (h:PV m w (.agg [p,n]) u):∃ u1 u2,u=.agg #[u1,u2]∧PV m w p u1∧PV m w n u2:=by
  cases h with
  | agg hl hk hv =>
    rename_i us
    match us,hl with
    | [u1,u2],_=>exact⟨u1,u2,rfl,hv 0 (by simp) (by simp),hv 1 (by simp) (by simp)⟩
theorem agg4 {m:Nat→Nat}{p n q k:D}{u:Value} (h:PV m w (.agg [p,n,q,k]) u):∃ u1 u2 u3 u4,u=.agg #[u1,u2,u3,u4]∧PV m w p u1∧PV m w n u2∧PV m w q u3∧PV m w k u4:=by
  cases h with
  | agg hl hk hv =>
    rename_i us
    match us,hl with
    | [u1,u2,u3,u4],_=>exact⟨u1,u2,u3,u4,rfl,hv 0 (by simp) (by simp),hv 1 (by simp) (by simp),hv 2 (by simp) (by simp),hv 3 (by simp) (by simp)⟩
theorem ptr_bits {m:Nat→Nat}{x:D}{u:Value} (hm:MOK m w) (hx:ptrD x=true) (h:PV m w x u) (n:Nat):Instr.sameBits n u u=true:=by
  rcases ptr_shape hm hx h with rfl | ⟨A,rfl,_⟩<;>cases n<;>simp[Instr.sameBits]
theorem int_bits {m:Nat→Nat}{x:D}{u:Value} (hx:intD x=true) (h:PV m w x u) (n:Nat):Instr.sameBits n u u=true:=by
  obtain⟨k,rfl⟩:=intD_inv hx h
  cases n<;>simp[Instr.sameBits]
theorem key_eq {m:Nat→Nat}{T:TypeId}{x y:D}{u v:Value} (hm:MOK m w) (hx:keyD P T x=true) (hy:keyD P T y=true) (h1:PV m w x u) (h2:PV m w y v):∃ b,(Op.equal T u v).run P w=.ok b w∧(b=true→u=v):=by
  have fin:∀ {d:Nat},d≤10000→EqAt P w d T u v→∃ b,(Op.equal T u v).run P w=.ok b w∧(b=true→u=v):=fun {d} hd ⟨b,r,i⟩=>⟨b,by
    have:=r (10000 - d)
    rw[show 10000 - d+d=10000 by omega] at this
    exact this,i⟩
  unfold keyD at hx hy
  split at hx
  · rename_i p n
    simp only[Bool.and_eq_true] at hx
    obtain⟨u1,u2,rfl,a1,a2⟩:=agg2 h1
    split at hy
    · simp only[Bool.and_eq_true] at hy
      obtain⟨v1,v2,rfl,b1,b2⟩:=agg2 h2
      exact fin (by omega) (span_eq hx.1.1 hm hx.1.2 hx.2 hy.1.2 hy.2 a1 a2 b1 b2)
    · simp only[Bool.and_eq_true] at hy
      obtain⟨fs,f,g,hu,hl,_,_,_,_,hf0,hg1,_⟩:=spanT_ok hx.1.1
      obtain⟨fs',f',g',hu',hl',_,_,_,_,hf0',hg1',_⟩:=metT_ok hy.1.1.1.1
      rw[hu] at hu';cases hu'
      rw[hl] at hl';cases hl'
      rw[hg1] at hg1';cases hg1'
    · cases hy
  · rename_i p n q k
    simp only[Bool.and_eq_true] at hx
    obtain⟨u1,u2,u3,u4,rfl,a1,a2,a3,a4⟩:=agg4 h1
    split at hy
    · simp only[Bool.and_eq_true] at hy
      obtain⟨fs,f,g,hu,hl,_,_,_,_,hf0,hg1,_⟩:=spanT_ok hy.1.1
      obtain⟨fs',f',g',hu',hl',_,_,_,_,hf0',hg1',_⟩:=metT_ok hx.1.1.1.1
      rw[hu] at hu';cases hu'
      rw[hl] at hl';cases hl'
      rw[hg1] at hg1';cases hg1'
    · simp only[Bool.and_eq_true] at hy
      obtain⟨v1,v2,v3,v4,rfl,b1,b2,b3,b4⟩:=agg4 h2
      exact fin (by omega) (met_eq hx.1.1.1.1 hm hx.1.1.1.2 hx.1.1.2 hx.1.2 hx.2 hy.1.1.1.2 hy.1.1.2 hy.1.2 hy.2 a1 a2 a3 a4 b1 b2 b3 b4)
    · cases hy
  · cases hx
theorem key_bits {m:Nat→Nat}{T:TypeId}{x:D}{u:Value} (hm:MOK m w) (hx:keyD P T x=true) (h:PV m w x u):Instr.sameBits 10000 u u=true:=by
  unfold keyD at hx
  split at hx
  · simp only[Bool.and_eq_true] at hx
    obtain⟨u1,u2,rfl,a1,a2⟩:=agg2 h
    simp[Instr.sameBits,ptr_bits hm hx.1.2 a1,int_bits hx.2 a2]
  · simp only[Bool.and_eq_true] at hx
    obtain⟨u1,u2,u3,u4,rfl,a1,a2,a3,a4⟩:=agg4 h
    simp[Instr.sameBits,ptr_bits hm hx.1.1.1.2 a1,int_bits hx.1.1.2 a2,ptr_bits hm hx.1.2 a3,int_bits hx.2 a4]
  · cases hx
theorem key_stays {m:Nat→Nat}{T:TypeId}{x:D}{u:Value} (hm:MOK m w) (hx:keyD P T x=true) (h:PV m w x u):(Instr.keyThatStays u u).run P w=.ok u w:=by
  simp[Instr.keyThatStays,key_bits hm hx h]
theorem check_leaf {T:TypeId}{u:Value}{e:Bool}{n:Nat} (h:ptrT P T=true∨intT P T=true):(Instr.checkKey e (n+1) T u).run P w=.ok () w:=by
  unfold Instr.checkKey
  have:∃ d,P.underlying T=some d∧((∃ e,d=.pointer e)∨∃ k,d=.int k):=by
    rcases h with h | h
    · obtain⟨e,_,hu,_⟩:=ptrT_ok h;exact⟨_,hu, .inl ⟨_,rfl⟩⟩
    · obtain⟨k,hu⟩:=intT_ok h;exact⟨_,hu, .inr ⟨_,rfl⟩⟩
  obtain⟨d,hu,⟨e',rfl⟩ | ⟨k,rfl⟩⟩:=this
  · simp only[Sem.run_bind,run_under hu,Result.andThen];rfl
  · simp only[Sem.run_bind,run_under hu,Result.andThen];rfl
theorem check_two {T : TypeId} {f g : Field} {fs : Array Field} {xs : Array Value} {u1 u2 : Value} {e : Bool} {n : Nat} (hu : P.underlying T = some (.struct fs)) (hl : fs.toList = [f, g]) (hf : f.name ≠ "_") (hg : g.name ≠ "_")
    (p1:(part f.type xs f.offset).run P w=.ok u1 w) (p3:(part g.type xs g.offset).run P w=.ok u2 w) (c1:(Instr.checkKey e n f.type u1).run P w=.ok () w) (c2:(Instr.checkKey e n g.type u2).run P w=.ok () w) :
    (Instr.checkKey e (n+1) T (.agg xs)).run P w=.ok () w:=by
  unfold Instr.checkKey
  simp only[Sem.run_bind,run_under hu,Result.andThen]
  rw[← Array.forIn_toList,hl]
  simp[hf,hg,p1,p3,c1,c2]
theorem check_span {T:TypeId}{u1 u2:Value}{e:Bool}{n:Nat} (hT:spanT P T=true):(Instr.checkKey e (n+2) T (.agg #[u1,u2])).run P w=.ok () w:=by
  obtain⟨fs,f,g,hu,hl,hf,hg,hpt,hit,hf0,hg1,hst,_,_⟩:=spanT_ok hT
  obtain⟨d1,k1,k2,k3⟩:=ptrT_under hpt
  obtain⟨d2,l1,l2,l3⟩:=intT_under hit
  exact check_two hu hl hf hg (run_part_leaf k1 k2 k3 (u:=u1) (by rw[hf0];rfl)) (run_part_leaf l1 l2 l3 (u:=u2) (by rw[hg1];rfl)) (check_leaf (.inl hpt)) (check_leaf (.inr hit))
theorem check_key {m:Nat→Nat}{T:TypeId}{x:D}{u:Value}{e:Bool} (hx:keyD P T x=true) (h:PV m w x u):(Instr.checkKey e 10000 T u).run P w=.ok () w:=by
  unfold keyD at hx
  split at hx
  · simp only[Bool.and_eq_true] at hx
    obtain⟨u1,u2,rfl,a1,a2⟩:=agg2 h
    exact check_span (n:=9998) hx.1.1
  · simp only[Bool.and_eq_true] at hx
    obtain⟨u1,u2,u3,u4,rfl,a1,a2,a3,a4⟩:=agg4 h
    obtain⟨fs,f,g,hu,hl,hf,hg,hpt,hit,hf0,hg1,hst⟩:=metT_ok hx.1.1.1.1
    obtain⟨fs1,_,_,hu1,_,_,_,_,_,_,_,_,hs1,_⟩:=spanT_ok hpt
    obtain⟨fs2,_,_,hu2,_,_,_,_,_,_,_,_,hs2,_⟩:=spanT_ok hit
    exact check_two (n:=9999) hu hl hf hg (u1:=.agg #[u1,u2]) (u2:=.agg #[u3,u4]) (by rw[run_part_struct hu1 hs1,hf0];rfl) (by rw[run_part_struct hu2 hs2,hg1];rfl) (check_span (n:=9997) hpt) (check_span (n:=9997) hit)
  · cases hx
theorem find_key {m:Nat→Nat}{T:TypeId}{x:D}{u:Value} (hm:MOK m w) (hx:keyD P T x=true) (h:PV m w x u):∀ {ks:List D}{es:List MapEntry} (i:Nat),(∀ y∈ks,keyD P T y=true)→es.length=ks.length→(∀ j (h:j<ks.length) (h':j<es.length),PV m w ks[j] es[j].key) →
    ((Instr.findAsking T u es i).run P w=.ok none w)∨∃ j,∃ hj:j<es.length,es[j].key=u∧(Instr.findAsking T u es i).run P w=.ok (some (i+j,es[j].val)) w
  | [],es,i,hks,hl,hk=>by
    have:es=[]:=by simpa using hl
    subst this
    exact .inl rfl
  | y::ks,[],i,hks,hl,hk=>by simp at hl
  | y::ks,e::es,i,hks,hl,hk=>by
    obtain⟨b,hb,hbe⟩:=key_eq hm hx (hks y (by simp)) h (hk 0 (by simp) (by simp))
    have hb:(Op.equal T u e.key).run P w=.ok b w:=hb
    cases b with
    | true =>
      refine .inr ⟨0,by simp,(hbe rfl).symm,?_⟩
      simp[Instr.findAsking,hb]
    | false =>
      rcases find_key hm hx h (i+1) (fun z hz=>hks z (by simp[hz])) (by simpa using hl) (fun j hj hj'=>hk (j+1) (by simpa using hj) (by simpa using hj')) with h1 | ⟨j,hj,h1,h2⟩
      · exact .inl (by simp[Instr.findAsking,hb,h1])
      · exact .inr ⟨j+1,by simpa using hj,by simpa using h1,by simp[Instr.findAsking,hb,h2];omega⟩
def mapKey (P:Program) (T:TypeId):Option (TypeId×TypeId) :=
  match P.underlying T with
  | some (.map k e)=>if spanT P k || metT P k then some (k,e) else none
  | _=>none
theorem mapKey_ok {T k e:TypeId} (h:Sh.mapKey P T=some (k,e)):P.underlying T=some (.map k e)∧∃ fs,P.underlying k=some (.struct fs):=by
  unfold Sh.mapKey at h
  split at h
  · rename_i k' e' hu
    split at h
    · rename_i hk
      simp only[Option.some.injEq,Prod.mk.injEq] at h;obtain⟨rfl,rfl⟩:=h
      refine⟨hu,?_⟩
      simp only[Bool.or_eq_true] at hk
      rcases hk with hk | hk
      · obtain⟨fs,_,_,h,_⟩:=spanT_ok hk;exact⟨fs,h⟩
      · obtain⟨fs,_,_,h,_⟩:=metT_ok hk;exact⟨fs,h⟩
    · cases h
  · cases h
theorem run_find_key {m:Nat→Nat}{T:TypeId}{fs:Array Field}{x:D}{u:Value} (hT:P.underlying T=some (.struct fs)) (hm:MOK m w) (hx:keyD P T x=true) (h:PV m w x u) {ks:List D}{es:Array MapEntry} (hks:∀ y∈ks,keyD P T y=true) (hl:es.size=ks.length) (hk:∀ j (h:j<ks.length) (h':j<es.size),PV m w ks[j] es[j].key) :
    ((Instr.findKey T u es.toList).run P w=.ok none w)∨∃ j,∃ hj:j<es.size,es[j].key=u∧(Instr.findKey T u es.toList).run P w=.ok (some (j,es[j].val)) w:=by
  have hnow:Instr.findNow (.struct fs) u es.toList 0=some none∧es.toList=[]∨Instr.findNow (.struct fs) u es.toList 0=none:=by
    cases es.toList with
    | nil=>exact .inl ⟨rfl,rfl⟩
    | cons e es=>exact .inr (by simp[Instr.findNow,Instr.sameNow])
  rcases hnow with ⟨h1,_⟩ | h1
  · exact .inl (by simp[Instr.findKey,run_under hT,h1])
  · have e1:(Instr.findKey T u es.toList).run P w=(Instr.findAsking T u es.toList 0).run P w:=by simp[Instr.findKey,run_under hT,h1]
    rw[e1]
    rcases find_key hm hx h (es:=es.toList) 0 hks (by simpa using hl) (fun j hj hj'=>by simpa using hk j hj (by simpa using hj')) with h2 | ⟨j,hj,h2,h3⟩
    · exact .inl h2
    · exact .inr ⟨j,by simpa using hj,by simpa using h2,by simpa using h3⟩
theorem does_lookup_key {T k e:TypeId}{x y:Operand}{ok:Bool}{b:Nat}{ks:List D}{vs:List SV}{t:SV}{d:D} (ho:o.op=.lookup T x y ok) (h:Rel m0 w0 G E S F a w) (hcl:S.gl cleanAt≠none) (hx:evalO E x=some (.mv b)) (hb:S.B b=some [.mc ks vs])
    (hy:evalO E y=some t) (htd:t.toD=some d) (hT:Sh.mapKey P T=some (k,e)) (hd:keyD P k d=true) (hks:∀ y∈ks,keyD P k y=true) {z:SV} (hz:lookR P e none ok=some z) :
    Does P m0 w0 G E S F a w o z S F∨∃ (j:Nat) (hj:j<ks.length) (hv:j<vs.length),¬ Apart ks[j] d∧∃ r,lookR P e (some vs[j]) ok=some r∧Does P m0 w0 G E S F a w o r S F:=by
  obtain⟨B,hg,hX⟩:=(evalO_ok h hx).mv_inv
  obtain⟨es,h1,h2,h3,h4,h5,h6⟩:=h.mapOf hb hg
  obtain⟨hu,fs,hks'⟩:=mapKey_ok hT
  have hY:=(evalO_ok h hy).toD htd
  have hm:=h.more.clean hcl
  rcases run_find_key hks' hm hd hY hks h2 h5 with hf | ⟨j,hj,hkey,hf⟩
  · left
    simp only[lookR,Option.map_eq_some_iff] at hz
    obtain⟨z',hz,rfl⟩:=hz
    obtain⟨u,hzu,hzv⟩:=zeroS_ok (G:=G) (w:=w) hz
    cases ok with
    | false =>
      refine .quiet h (u:=u) ?_ (by simpa using hzv)
      simp only[execOp,ho,hX,Instr.lookup]
      simp[run_under hu,MapKept.run_getObj_map h1,check_key hd hY,hf,run_zero hzu]
    | true =>
      refine .quiet h (u:=.tuple #[u, .bool false]) ?_ (by
        have:=VR.tu2 hzv (VR.d (G:=G) (w:=w) (PV.v (x:=.bool false) rfl))
        simpa using this)
      simp only[execOp,ho,hX,Instr.lookup]
      simp[run_under hu,MapKept.run_getObj_map h1,check_key hd hY,hf,run_zero hzu]
  · right
    refine⟨j,by omega,by omega,fun hap=>?_,_,rfl,?_⟩
    · have:=h5 j (by omega) hj
      rw[hkey] at this
      exact hap.no this hY
    · have hval:=h6 j (by omega) hj
      cases ok with
      | false =>
        refine .quiet h (u:=es[j].val) ?_ (by simpa using hval)
        simp only[execOp,ho,hX,Instr.lookup]
        simp[run_under hu,MapKept.run_getObj_map h1,check_key hd hY,hf]
      | true =>
        refine .quiet h (u:=.tuple #[es[j].val, .bool true]) ?_ (by
          have:=VR.tu2 hval (VR.d (G:=G) (w:=w) (PV.v (x:=.bool true) rfl))
          simpa using this)
        simp only[execOp,ho,hX,Instr.lookup]
        simp[run_under hu,MapKept.run_getObj_map h1,check_key hd hY,hf]
theorem does_update_key {T k e:TypeId}{x y z:Operand}{b:Nat}{ks:List D}{vs:List SV}{t v:SV}{d:D} (ho:o.op=.mapUpdate T x y z) (h:Rel m0 w0 G E S F a w) (hcl:S.gl cleanAt≠none) (hx:evalO E x=some (.mv b)) (hb:S.B b=some [.mc ks vs])
    (hy:evalO E y=some t) (htd:t.toD=some d) (hz:evalO E z=some v) (hT:Sh.mapKey P T=some (k,e)) (hd:keyD P k d=true) (hks:∀ y∈ks,keyD P k y=true) :
    Does P m0 w0 G E S F a w o (.d (.v undef)) (S.set b [.mc (ks++[d]) (vs++[v])]) F∨∃ (j:Nat) (hj:j<ks.length),¬ Apart ks[j] d∧Does P m0 w0 G E S F a w o (.d (.v undef)) (S.set b [.mc ks (vs.set j v)]) F:=by
  obtain⟨B,hg,hX⟩:=(evalO_ok h hx).mv_inv
  obtain⟨es,h1,h2,h3,h4,h5,h6⟩:=h.mapOf hb hg
  obtain⟨hu,fs,hks'⟩:=mapKey_ok hT
  have hY:=(evalO_ok h hy).toD htd
  generalize hyu:a.eval y=uk at hY
  have hV:=evalO_ok h hz
  generalize hz':a.eval z=uv at hV
  have hm:=h.more.clean hcl
  rcases run_find_key hks' hm hd hY hks h2 h5 with hf | ⟨j,hj,hkey,hf⟩
  · left
    obtain⟨r1,f⟩:=h.set_obj hb hg (o':=.map (es.push { key:=uk,val:=uv,born:=es.size }) (es.size+1)) (cs':=[.mc (ks++[d]) (vs++[v])]) (fun _ _ _ e=>by cases e) (fun W f hW=>ObjR.push hW h2 h3 h4 (fun j hj hj'=>(h5 j hj hj').fut f) (fun j hj hj'=>(h6 j hj hj').fut f) (hY.fut f) (hV.fut f)) rfl
    refine⟨_,undef,_,G,?_, .inr ⟨rfl,rfl⟩, .d (.v rfl),r1,f⟩
    simp only[execOp,ho,hX,hyu,hz',Instr.mapUpdate]
    simp[run_under hu,MapKept.run_getObj_map h1,check_key hd hY,hf,MapKept.run_setObj_map _ h1]
  · right
    refine⟨j,by omega,fun hap=>?_,?_⟩
    · have:=h5 j (by omega) hj
      rw[hkey] at this
      exact hap.no this hY
    · obtain⟨r1,f⟩:=h.set_obj hb hg (o':=.map (es.modify j fun e=>{ e with key:=uk,val:=uv }) es.size) (cs':=[.mc ks (vs.set j v)]) (fun _ _ _ e=>by cases e) (fun W f hW=>ObjR.modify hj hW h2 h3 h4 (fun j hj hj'=>(h5 j hj hj').fut f) (fun j hj hj'=>(h6 j hj hj').fut f) (fun _=>rfl) hkey.symm (hV.fut f)) rfl
      refine⟨_,undef,_,G,?_, .inr ⟨rfl,rfl⟩, .d (.v rfl),r1,f⟩
      simp only[execOp,ho,hX,hyu,hz',Instr.mapUpdate]
      simp[run_under hu,MapKept.run_getObj_map h1,check_key hd hY,hf,hj,hkey,key_stays hm hd hY,MapKept.run_setObj_map _ h1]
theorem does_eql_apart {T T2:TypeId}{x y:Operand}{s t:SV}{d d':D} (ho:o.op=.binOp .eql T x y T2) (h:Rel m0 w0 G E S F a w) (hcl:S.gl cleanAt≠none) (hx:evalO E x=some s) (hy:evalO E y=some t) (hs:s.toD=some d) (ht:t.toD=some d')
    (hT:spanT P T=true) (hd:keyD P T d=true) (hd':keyD P T d'=true) (hap:Apart d d'):Does P m0 w0 G E S F a w o (.d (.v (.bool false))) S F:=by
  have hX:=(evalO_ok h hx).toD hs
  have hY:=(evalO_ok h hy).toD ht
  obtain⟨b,hb,hbe⟩:=key_eq (h.more.clean hcl) hd hd' hX hY
  obtain⟨_,_,_,_,_,_,_,_,_,_,_,_,_,hgd⟩:=spanT_ok hT
  have shape:∀ {d:D} {u:Value},keyD P T d=true→PV G.mark w d u→∃ us,u=.agg us:=fun {d u} hd hp=>by
    unfold keyD at hd
    split at hd
    · obtain⟨u1,u2,rfl,_⟩:=agg2 hp;exact⟨_,rfl⟩
    · obtain⟨u1,u2,u3,u4,rfl,_⟩:=agg4 hp;exact⟨_,rfl⟩
    · cases hd
  have hbf:b=false:=by
    cases b with
    | false=>rfl
    | true=>rw[hbe rfl] at hX;exact (hap.no hX hY).elim
  subst hbf
  generalize hu:a.eval x=u at *
  generalize hv:a.eval y=v at *
  obtain⟨us,rfl⟩:=shape hd hX
  obtain⟨vs,rfl⟩:=shape hd' hY
  refine .quiet h (u:=.bool false) ?_ (.d (.v rfl))
  have h1:(eqGuard .eql T x y (.agg us) (.agg vs)).run P w=.ok () w:=run_eqGuard_agg w .eql T x y us vs hgd
  have h2:(binOp .eql T (.agg us) (.agg vs)).run P w=.ok (.bool false) w:=by
    rw[run_eql_struct]
    have hb:(Op.equalIn 10000 T (.agg us) (.agg vs)).run P w=.ok false w:=hb
    rw[hb];rfl
  simp only[execOp,ho,Sem.run_bind,hu,hv,h1,h2,Result.andThen]
  rfl
theorem VR.sk_os {b n sz:Nat}{u:Value} (h:VR G w (.sk b n sz) u):VR G w (.os b 0 n) u:=by
  cases h with
  | sk h hn hb hr=>exact .os h hn
theorem does_copy {T T2 e:TypeId}{sz b off n m:Nat}{x y:Operand}{cs:List SV}{t:SV}{ds:List D} (ho:o.op=.call { callee:=.builtin .copy,args:=#[x,y],argTypes:=#[T,T2] }) (h:Rel m0 w0 G E S F a w) (hx:VR G w (.os b off n) (a.eval x)) (hb:S.B b=some cs)
    (hy:evalO E y=some t) (ht:rowS t=some (ds,m)) (hu:P.underlying T=some (.slice e)) (hs:szOf P e=some sz) (hle:m≤n) (hlen:off+m*sz≤cs.length) (hds:ds.length=m*sz) (hpos:0<m*sz) :
    Does P m0 w0 G E S F a w o (.d (.v (.int .i64 m))) (S.set b (cs.take off++ds.map .d++cs.drop (off+m*sz))) F:=by
  obtain⟨B,c,hg,hc,hX⟩:=hx.os_inv
  obtain⟨By,oy,cy,hY,_,vs,hvl,hvc,hvv⟩:=(rowS_ok ht (evalO_ok h hy)).cells (by omega)
  obtain⟨B',us,T0,k1,k2,g3,g4,g5,gu,g6⟩:=h.box b cs hb (h.boxOf hb hg)
  obtain rfl:B=B':=Option.some.inj (hg.symm.trans k1)
  have hvl2:vs.length=m*sz:=by omega
  have hv1:∀ u∈vs,u.oneCell'=true:=fun u hu=>by
    obtain⟨j,hj,rfl⟩:=List.getElem_of_mem hu
    obtain⟨g1,g2⟩:=hvv j (by omega) hj
    exact g2.one g1
  have hst:=run_storeCells_fr (P:=P) B off T0.1 T0.2 vs 0 us w k2 gu (by omega) hv1
  rw[Nat.add_zero] at hst
  have hfc:=run_firstCells_some (P:=P) w sz m ⟨By,oy,none⟩ m cy vs hvl2 (fun j v hj=>by rw[add_off];exact (hvc j v hj).2)
  obtain⟨r1,f⟩:=h.set_box hb hg k2 (us':=(us.toList.take off++vs++us.toList.drop (off+vs.length)).toArray) (cs':=cs.take off++ds.map .d++cs.drop (off+m*sz)) (by simp;omega) (by simp;omega) (fun W G' f j hj hj'=>by
    have:=three_rel (R:=fun s u=>s.cell=true∧VR G' W s u) (cs:=cs) (us:=us.toList) (ms:=ds.map .d) (ns:=vs) (off:=off) (n:=m*sz) (by simpa using g3) (by simpa using hds) hvl2 hlen
      (fun j hj hj'=>⟨(g6 j hj (by simpa using hj')).1,(g6 j hj (by simpa using hj')).2.fut f⟩) (fun j hj hj'=>by
        simp only[List.getElem_map]
        exact⟨(hvv j (by simpa using hj) hj').1, .d ((hvv j (by simpa using hj) hj').2.fut f)⟩) j hj (by simpa[hvl2] using hj')
    simpa[hvl2] using this)
  refine⟨_,_,_,G,?_, .inl rfl, .d (.v (x:=.int .i64 m) rfl),r1,f⟩
  have hmin:min m n=m:=Nat.min_eq_left hle
  simp only[execOp,ho]
  simp[resolve,invoke,builtin,Builtin.copy_,hX,hY,run_under hu,Builtin.lenOf,hmin,run_size hs,hfc,hst,goInt]
end
end Go.Sh
namespace Go.Sh
open Go.RowKit (Below)
def GOK (gl:Nat→Option D) (m:Nat→Nat) (w:World):Prop:=(∀ g x,gl g=some x→PV m w x (.pointer (some ⟨g,0,none⟩)))∧(gl cleanAt≠none→MOK m w)
def FnOk (P : Program) (f : FuncId) : Prop := ∃ fn, P.funcs[f]? = some fn ∧ (fn.name == "runtime.NumGoroutine") = false ∧ fn.body.isNone = false
def PCall (P:Program) (gl:Nat→Option D) (f:FuncId) (args:List D) (r:D):Prop :=
  FnOk P f ∧
  ∀ (m:Nat→Nat) (w:World) (vals:List Value),(∀ B,w.heap.size≤B→m B=0)→GOK gl m w→vals.length=args.length→(∀ j (h:j<args.length) (h':j<vals.length),PV m w args[j] vals[j]) →
    Calls P f vals.toArray w fun e w'=>∃ u m',e=.returned u∧PV m' w' r u∧(∀ B,B<w.heap.size→m' B=m B)∧(∀ B,w'.heap.size≤B→m' B=0)∧Below w.heap.size w w'∧(gl cleanAt≠none→∀ B,w.heap.size≤B→0<m' B→okB w' B (m' B))
structure Keeps (S S':St):Prop where
  n:S'.n=S.n
  md:S'.md=S.md
  gl:S'.gl=S.gl
  nx:S.nx≤S'.nx
theorem Keeps.refl (S:St):Keeps S S:=⟨rfl,rfl,rfl,Nat.le_refl _⟩
theorem Keeps.trans {S S' S'':St} (h:Keeps S S') (k:Keeps S' S''):Keeps S S'':=⟨k.n.trans h.n,k.md.trans h.md,k.gl.trans h.gl,Nat.le_trans h.nx k.nx⟩
def LCall (P:Program) (f:FuncId) (ss:List SV) (S:St) (r:SV) (S':St):Prop :=
  FnOk P f∧Keeps S S' ∧
  ∀ (m0:Nat→Nat) (w0:World) (G:Gh) (E:Env) (F:Nat→Prop) (a:Act) (w:World) (vals:List Value),Rel m0 w0 G E S F a w→(∀ b,S.nx≤b→F b)→vals.length=ss.length→(∀ j (h:j<ss.length) (h':j<vals.length),VR G w ss[j] vals[j]) →
    Calls P f vals.toArray w fun e w'=>∃ u G',e=.returned u∧VR G' w' r u∧Rel m0 w0 G' E S' (fun b=>F b∧¬ (S.nx≤b∧b<S'.nx)) a w'∧Fut G w G' w'
section
variable {P:Program}{E E':Env}{S S':St}
theorem rows_wide {n:Nat}{row:String}{args:Array Value}{w:World}{R:Value→World→Prop} (h:Rows P row args w R):RowsIn Fence.wide n P row args w R:=fun c cs _=>by
  obtain⟨v,w',r,s⟩:=h c cs
  exact⟨v,w',r,stepsIn_wide.2 s⟩
theorem wq_of_wp {o:Oper}{a:Act}{w:World}{K:Act→World→Prop}{Q:Exit→Act→World→Prop} (h:o.wp P a w K Q):o.wpIn Fence.wide 0 P a w K Q:=by
  refine⟨fun _ _=>trivial,?_⟩
  show o.uponIn Fence.wide 0 P a K Q ((execOp a.eval o).run P w)
  unfold Oper.wp at h
  generalize (execOp a.eval o).run P w=r at h
  have hd:(Fence.wide.depth.isSome=true→1≤0):=fun h=>by simp[Fence.wide] at h
  cases r with
  | ok x w' =>
    cases x with
    | value v=>exact h
    | skip=>exact h
    | defer d=>exact h
    | enter f args=>exact⟨hd,callsIn_wide.2 h⟩
    | row row args=>exact⟨hd,rows_wide h⟩
    | _=>exact h.elim
  | halt x w' =>
    cases x with
    | panic v=>exact h
    | _=>exact h.elim
def OpS (P:Program) (id:Nat) (E:Env) (S:St) (o:Oper) (s:SV) (S':St):Prop :=
  Keeps S S'∧∀ (m0:Nat→Nat) (w0:World) (G:Gh) (F:Nat→Prop) (a:Act) (w:World),Rel m0 w0 G E S F a w→F id→(∀ b,S.nx≤b→F b)→∀ (K:Act→World→Prop) (Q:Exit→Act→World→Prop),
    (∀ G' u w',VR G' w' s u→Rel m0 w0 G' E S' (fun b=>F b∧b≠id∧¬ (S.nx≤b∧b<S'.nx)) a w'→Fut G w G' w'→K (a.put o.dst u) w')→o.wpIn Fence.wide 0 P a w K Q
theorem OpS.of_does {id:Nat}{o:Oper}{s:SV} (hk:Keeps S S')
    (h:∀ (m0:Nat→Nat) (w0:World) (G:Gh) (F:Nat→Prop) (a:Act) (w:World),Rel m0 w0 G E S F a w→F id→Does P m0 w0 G E S F a w o s S' (fun b=>F b∧b≠id)):OpS P id E S o s S':=by
  refine⟨hk,fun m0 w0 G F a w hr hid hF K Q hK=>?_⟩
  obtain⟨n,u,w',G',h1,h2,h3,h4,h5⟩:=h m0 w0 G F a w hr hid
  have h4:=h4.less (F':=fun b=>F b∧b≠id∧¬ (S.nx≤b∧b<S'.nx)) (fun b hb=>⟨hb.1,hb.2.1⟩)
  refine wq_of_wp ?_
  unfold Oper.wp
  rw[h1]
  rcases h2 with rfl | ⟨rfl,rfl⟩
  · exact hK G' u w' h3 h4 h5
  · exact hK G' undef w' h3 h4 h5
theorem OpS.quiet {id:Nat}{o:Oper}{s:SV}
    (h:∀ (m0:Nat→Nat) (w0:World) (G:Gh) (F:Nat→Prop) (a:Act) (w:World),Rel m0 w0 G E S F a w→Does P m0 w0 G E S F a w o s S F):OpS P id E S o s S :=
  .of_does (Keeps.refl _) (fun m0 w0 G F a w hr hid=>(h m0 w0 G F a w hr).less (fun b hb=>hb.1))
def argsS (E:Env):List Operand→Option (List SV)
  | []=>some []
  | x::r=>match evalO E x,argsS E r with
    | some s,some ss=>some (s::ss)
    | _,_=>none
theorem argsS_ok {m0:Nat→Nat}{w0:World}{G:Gh}{F:Nat→Prop}{a:Act}{w:World} (h:Rel m0 w0 G E S F a w):∀ {xs:List Operand}{ss:List SV},argsS E xs=some ss →
    (xs.map a.eval).length=ss.length∧∀ j (hj:j<ss.length) (hj':j<(xs.map a.eval).length),VR G w ss[j] (xs.map a.eval)[j]
  | [],ss,he=>by
    simp only[argsS,Option.some.injEq] at he;subst he
    exact⟨rfl,fun j hj=>by simp at hj⟩
  | x::r,ss,he=>by
    simp only[argsS] at he
    split at he
    · rename_i s ss' h1 h2
      simp only[Option.some.injEq] at he;subst he
      obtain⟨hl,hg⟩:=argsS_ok h h2
      refine⟨by simpa using hl,fun j hj hj'=>?_⟩
      cases j with
      | zero=>exact evalO_ok h h1
      | succ j=>exact hg j (by simpa using hj) (by simpa using hj')
    · cases he
theorem run_enter {a:Act}{w:World}{o:Oper}{g:FuncId}{xs:List Operand}{ts:Array TypeId} (ho:o.op=.call { callee:=.value (.func g),args:=xs.toArray,argTypes:=ts }) (hf:FnOk P g) :
    (execOp a.eval o).run P w=.ok (.enter g (xs.map a.eval).toArray) w:=by
  obtain⟨fn,hf,hname,hbody⟩:=hf
  have hname' : fn.name ≠ "runtime.NumGoroutine" := by simpa using hname
  have hbody':fn.body≠none:=by intro e;rw[e] at hbody;simp at hbody
  simp only[execOp,ho]
  simp[resolve,Deferred.ofValue,Act.eval,invoke,callFunc,hf]
  rw[if_neg hname',if_neg hbody']
theorem OpS.enter {id:Nat}{o:Oper}{g:FuncId}{ds:List D}{r:D} (hc:PCall P S.gl g ds r)
    (he:∀ (m0:Nat→Nat) (w0:World) (G:Gh) (F:Nat→Prop) (a:Act) (w:World),Rel m0 w0 G E S F a w→∃ vals:List Value,(execOp a.eval o).run P w=.ok (.enter g vals.toArray) w∧vals.length=ds.length∧∀ j (h:j<ds.length) (h':j<vals.length),PV G.mark w ds[j] vals[j]) :
    OpS P id E S o (.d r) S:=by
  refine⟨Keeps.refl _,fun m0 w0 G F a w hr hid hF K Q hK=>?_⟩
  obtain⟨vals,hrun,hl,hv⟩:=he m0 w0 G F a w hr
  refine wq_of_wp ?_
  unfold Oper.wp
  rw[hrun,Oper.upon_enter]
  refine (hc.2 G.mark w vals hr.new ⟨hr.glob,hr.more.clean⟩ hl hv).mono ?_
  rintro e w' ⟨u,m',rfl,h1,h2,h3,h4,h5⟩
  obtain⟨hr',f⟩:=hr.called h2 h3 h5 h4
  exact hK _ u w' (.d h1) (hr'.less (fun b hb=>hb.1)) f
theorem toDs_args {G:Gh}{w:World}{ss:List SV}{ds:List D}{us:List Value} (h:toDs ss=some ds) (hl:us.length=ss.length) (hv:∀ j (hj:j<ss.length) (hj':j<us.length),VR G w ss[j] us[j]) :
    us.length=ds.length∧∀ j (hj:j<ds.length) (hj':j<us.length),PV G.mark w ds[j] us[j]:=by
  obtain⟨h1,h2⟩:=toDs_get h
  exact⟨by omega,fun j hj hj'=>(hv j (by omega) hj').toD (h2 j (by omega) hj)⟩
theorem OpS.call {id:Nat}{o:Oper}{g:FuncId}{xs:List Operand}{ts:Array TypeId}{ss:List SV}{ds:List D}{r:D} (ho:o.op=.call { callee:=.value (.func g),args:=xs.toArray,argTypes:=ts }) (hs:argsS E xs=some ss) (hd:toDs ss=some ds)
    (hc:PCall P S.gl g ds r):OpS P id E S o (.d r) S:=by
  refine OpS.enter hc (fun m0 w0 G F a w hr=>?_)
  obtain⟨h1,h2⟩:=argsS_ok hr hs
  obtain⟨h3,h4⟩:=toDs_args hd h1 h2
  exact⟨_,run_enter ho hc.1,h3,h4⟩
theorem OpS.lcall {id:Nat}{o:Oper}{g:FuncId}{xs:List Operand}{ts:Array TypeId}{ss:List SV}{r:SV} (ho:o.op=.call { callee:=.value (.func g),args:=xs.toArray,argTypes:=ts }) (hs:argsS E xs=some ss)
    (hc:LCall P g ss S r S'):OpS P id E S o r S':=by
  refine⟨hc.2.1,fun m0 w0 G F a w hr hid hF K Q hK=>?_⟩
  obtain⟨h1,h2⟩:=argsS_ok hr hs
  refine wq_of_wp ?_
  unfold Oper.wp
  rw[run_enter ho hc.1,Oper.upon_enter]
  refine (hc.2.2 m0 w0 G E F a w (xs.map a.eval) hr hF h1 h2).mono ?_
  rintro e w' ⟨u,G',rfl,h1,h2,h3⟩
  exact hK _ u w' h1 (h2.less (fun b hb=>⟨hb.1,hb.2.2⟩)) h3
def fnS:SV→Option (FuncId×List SV×List SV)
  | .fn (.func g) xs ys=>some (g,xs,ys)
  | .d (.fn (.func g) xs ys)=>some (g,xs.map .d,ys.map .d)
  | _=>none
theorem fnS_ok {G:Gh}{w:World}{s:SV}{g:FuncId}{xs ys:List SV}{u:Value} (h:fnS s=some (g,xs,ys)) (hv:VR G w s u):∃ us vs:List Value,u=.func (.func g) us.toArray vs.toArray∧us.length=xs.length∧vs.length=ys.length ∧
    (∀ j (h:j<xs.length) (h':j<us.length),VR G w xs[j] us[j])∧∀ j (h:j<ys.length) (h':j<vs.length),VR G w ys[j] vs[j]:=by
  unfold fnS at h
  split at h
  · simp only[Option.some.injEq,Prod.mk.injEq] at h;obtain⟨rfl,rfl,rfl⟩:=h
    cases hv with
    | fn hl hm hv hu=>exact⟨_,_,rfl,hl,hm,hv,hu⟩
  · rename_i g' xs' ys'
    simp only[Option.some.injEq,Prod.mk.injEq] at h;obtain⟨rfl,rfl,rfl⟩:=h
    cases hv with
    | d hp =>
      cases hp with
      | fn hl hm hv hu =>
        refine⟨_,_,rfl,by simpa using hl,by simpa using hm,fun j hj hj'=>?_,fun j hj hj'=>?_⟩
        · simp only[List.getElem_map];exact .d (hv j (by simpa using hj) hj')
        · simp only[List.getElem_map];exact .d (hu j (by simpa using hj) hj')
  · cases h
theorem run_dyn {a:Act}{w:World}{o:Oper}{g:FuncId}{x:Operand}{xs:List Operand}{ts:Array TypeId}{us vs:List Value} (ho:o.op=.call { callee:=.value x,args:=xs.toArray,argTypes:=ts }) (hx:a.eval x=.func (.func g) us.toArray vs.toArray) (hf:FnOk P g) :
    (execOp a.eval o).run P w=.ok (.enter g (us++xs.map a.eval++vs).toArray) w:=by
  obtain⟨fn,hf,hname,hbody⟩:=hf
  have hname' : fn.name ≠ "runtime.NumGoroutine" := by simpa using hname
  have hbody':fn.body≠none:=by intro e;rw[e] at hbody;simp at hbody
  simp only[execOp,ho]
  simp[resolve,Deferred.ofValue,hx,invoke,callFunc,hf]
  rw[if_neg hname',if_neg hbody']
theorem dyn_args {G:Gh}{w:World}{xs ss ys:List SV}{us ws vs:List Value} (h1:us.length=xs.length) (h2:ws.length=ss.length) (h3:vs.length=ys.length) (k1:∀ j (h:j<xs.length) (h':j<us.length),VR G w xs[j] us[j])
    (k2:∀ j (h:j<ss.length) (h':j<ws.length),VR G w ss[j] ws[j]) (k3:∀ j (h:j<ys.length) (h':j<vs.length),VR G w ys[j] vs[j]) :
    (us++ws++vs).length=(xs++ss++ys).length∧∀ j (h:j<(xs++ss++ys).length) (h':j<(us++ws++vs).length),VR G w (xs++ss++ys)[j] (us++ws++vs)[j]:=by
  have both:∀ {as bs:List SV} {cs ds:List Value},cs.length=as.length→ds.length=bs.length→(∀ j (h:j<as.length) (h':j<cs.length),VR G w as[j] cs[j])→(∀ j (h:j<bs.length) (h':j<ds.length),VR G w bs[j] ds[j]) →
      ∀ j (h:j<(as++bs).length) (h':j<(cs++ds).length),VR G w (as++bs)[j] (cs++ds)[j]:=by
    intro as bs cs ds e1 e2 q1 q2 j hj hj'
    rcases Nat.lt_or_ge j as.length with h | h
    · rw[List.getElem_append_left h,List.getElem_append_left (by omega)];exact q1 j h _
    · simp only[List.length_append] at hj hj'
      rw[List.getElem_append_right h,List.getElem_append_right (by omega)]
      have:=q2 (j - as.length) (by omega) (by omega)
      simpa[e1] using this
  exact⟨by simp[h1,h2,h3],both (by simp[h1,h2]) h3 (both h1 h2 k1 k2) k3⟩
theorem OpS.dyn {id:Nat}{o:Oper}{g:FuncId}{x:Operand}{xs:List Operand}{ts:Array TypeId}{s:SV}{fs cs ss:List SV}{ds:List D}{r:D} (ho:o.op=.call { callee:=.value x,args:=xs.toArray,argTypes:=ts }) (hx:evalO E x=some s) (hf:fnS s=some (g,fs,cs)) (hs:argsS E xs=some ss)
    (hd:toDs (fs++ss++cs)=some ds) (hc:PCall P S.gl g ds r):OpS P id E S o (.d r) S:=by
  refine OpS.enter hc (fun m0 w0 G F a w hr=>?_)
  obtain⟨us,vs,e,l1,l2,k1,k2⟩:=fnS_ok hf (evalO_ok hr hx)
  obtain⟨h1,h2⟩:=argsS_ok hr hs
  obtain⟨g1,g2⟩:=dyn_args l1 h1 l2 k1 h2 k2
  obtain⟨h3,h4⟩:=toDs_args hd g1 g2
  exact⟨_,run_dyn ho e hc.1,h3,h4⟩
theorem OpS.dynL {id:Nat}{o:Oper}{g:FuncId}{x:Operand}{xs:List Operand}{ts:Array TypeId}{s:SV}{fs cs ss:List SV}{r:SV} (ho:o.op=.call { callee:=.value x,args:=xs.toArray,argTypes:=ts }) (hx:evalO E x=some s) (hf:fnS s=some (g,fs,cs)) (hs:argsS E xs=some ss)
    (hc:LCall P g (fs++ss++cs) S r S'):OpS P id E S o r S':=by
  refine⟨hc.2.1,fun m0 w0 G F a w hr hid hF K Q hK=>?_⟩
  obtain⟨us,vs,e,l1,l2,k1,k2⟩:=fnS_ok hf (evalO_ok hr hx)
  obtain⟨h1,h2⟩:=argsS_ok hr hs
  obtain⟨g1,g2⟩:=dyn_args l1 h1 l2 k1 h2 k2
  refine wq_of_wp ?_
  unfold Oper.wp
  rw[run_dyn ho e hc.1,Oper.upon_enter]
  refine (hc.2.2 m0 w0 G E F a w _ hr hF g1 g2).mono ?_
  rintro e w' ⟨u,G',rfl,h1,h2,h3⟩
  exact hK _ u w' h1 (h2.less (fun b hb=>⟨hb.1,hb.2.2⟩)) h3
def YCall (P:Program) (y:Nat) (ss:List SV) (S:St) (r:SV) (S':St):Prop :=
  Keeps S S' ∧
  ∀ (m0:Nat→Nat) (w0:World) (G:Gh) (E:Env) (F:Nat→Prop) (a:Act) (w:World) (vals:List Value) (l:Nat),Rel m0 w0 G E S F a w→(∀ b,S.nx≤b→F b)→G.obj y=some l→vals.length=ss.length→(∀ j (h:j<ss.length) (h':j<vals.length),VR G w ss[j] vals[j]) →
    YieldAt Fence.wide 0 P l vals.toArray w fun e w'=>∃ u G',e=.returned u∧VR G' w' r u∧Rel m0 w0 G' E S' (fun b=>F b∧¬ (S.nx≤b∧b<S'.nx)) a w'∧Fut G w G' w'
theorem yv_inv {G:Gh}{w:World}{y:Nat}{u:Value} (h:VR G w (.yv y) u):∃ l,G.obj y=some l∧u=.func (.yield l) #[] #[]:=by
  cases h with
  | yv h=>exact⟨_,h,rfl⟩
theorem OpS.yield {id:Nat}{o:Oper}{x:Operand}{xs:List Operand}{ts:Array TypeId}{y:Nat}{ss:List SV}{r:SV} (ho:o.op=.call { callee:=.value x,args:=xs.toArray,argTypes:=ts }) (hx:evalO E x=some (.yv y)) (hs:argsS E xs=some ss)
    (hc:YCall P y ss S r S'):OpS P id E S o r S':=by
  refine⟨hc.1,fun m0 w0 G F a w hr hid hF K Q hK=>?_⟩
  obtain⟨l,hl,hX⟩:=yv_inv (evalO_ok hr hx)
  obtain⟨h1,h2⟩:=argsS_ok hr hs
  obtain⟨fn,tmps,assign,body,hrun,hround⟩:=hc.2 m0 w0 G E F a w (xs.map a.eval) l hr hF hl h1 h2
  refine⟨fun _ _=>trivial,?_⟩
  show o.uponIn Fence.wide 0 P a K Q ((execOp a.eval o).run P w)
  have hrun2:(execOp a.eval o).run P w=.ok (.round l fn tmps assign body) w:=by
    rw[← hrun]
    simp only[execOp,ho]
    simp[resolve,Deferred.ofValue,hX,invoke]
  rw[hrun2]
  refine⟨fun h=>by simp[Fence.wide] at h,hround.mono ?_⟩
  rintro e w' ⟨u,G',rfl,h1,h2,h3⟩
  exact hK _ u w' h1 (h2.less (fun b hb=>⟨hb.1,hb.2.2⟩)) h3
def methOf (P:Program) (t:TypeId) (name:String):Option FuncId :=
  match P.info? t with
  | some i=>match i.methods.find? (·.name == name) with
    | some m=>match m.path.toList,m.func,P.underlying t with
      | _,_,some (.pointer _)=>none
      | [],some (f,false),some _=>some f
      | _,_,_=>none
    | none=>none
  | none=>none
theorem run_method {w:World}{t:TypeId}{name:String}{f:FuncId} (h:methOf P t name=some f) (fuel:Nat) (v:Value):(method (fuel+1) t v name).run P w=.ok (f,v) w:=by
  unfold methOf at h
  split at h
  · rename_i i hi
    split at h
    · rename_i m hm
      split at h
      · cases h
      · rename_i g d hne hp hfn hu
        simp only[Option.some.injEq] at h;subst h
        have hr:∀ wr,(receiverAt t (.val v) false wr).run P w=.ok v w:=by
          intro wr
          unfold receiverAt
          rw[Sem.run_bind,run_under hu]
          simp only[Result.andThen_ok]
          cases d<;>first | exact absurd hu (hne _) | rfl
        simp[method,typeInfo,hi,hm,hp,follow,hfn,hr]
      · cases h
    · cases h
  · cases h
theorem OpS.invoke {id:Nat}{o:Oper}{x:Operand}{name:String}{xs:List Operand}{ts:Array TypeId}{t:TypeId}{y:D}{ss:List SV}{ds:List D}{g:FuncId}{r:D} (ho:o.op=.call { callee:=.invoke x name,args:=xs.toArray,argTypes:=ts }) (hx:evalO E x=some (.d (.ifc t y)))
    (hm:methOf P t name=some g) (hs:argsS E xs=some ss) (hd:toDs ss=some ds) (hc:PCall P S.gl g (y::ds) r):OpS P id E S o (.d r) S:=by
  refine OpS.enter hc (fun m0 w0 G F a w hr=>?_)
  obtain⟨h1,h2⟩:=argsS_ok hr hs
  obtain⟨h3,h4⟩:=toDs_args hd h1 h2
  obtain⟨u',hX,hu⟩:=ifcS_ok (s:=.d (.ifc t y)) rfl (evalO_ok hr hx)
  refine⟨u'::xs.map a.eval,?_,by simpa using h3,fun j hj hj'=>?_⟩
  · obtain⟨fn,hf,hname,hbody⟩:=hc.1
    have hname' : fn.name ≠ "runtime.NumGoroutine" := by simpa using hname
    have hbody':fn.body≠none:=by intro e;rw[e] at hbody;simp at hbody
    have hme:=run_method (P:=P) (w:=w) hm (P.types.size+99) u'
    simp only[execOp,ho]
    simp[resolve,hX,Go.invoke,callMethod,Made.depth,hme,callFunc,hf]
    rw[if_neg hname',if_neg hbody']
    rw[List.take_of_length_le (by simp)]
  · cases j with
    | zero =>
      cases hu with
      | d hp=>exact hp
    | succ j=>exact h4 j (by simpa using hj) (by simpa using hj')
def LS (P:Program) (ops:Array Oper) (base i:Nat) (l:List Oper) (E:Env) (S:St) (Q:Env→St→Prop):Prop :=
  i+l.length≤ops.size→base+ops.size≤S.nx →
  ∀ (m0:Nat→Nat) (w0:World) (G:Gh) (a:Act) (w:World) (H:Nat→Prop),(∀ b,H b→b<base)→Rel m0 w0 G E S (fun b=>(base+i≤b∧b<base+ops.size)∨S.nx≤b∨H b) a w→∀ QQ:Exit→Act→World→Prop,
    (∀ G' E' S' a' w',Q E' S'→Keeps S S'→Rel m0 w0 G' E' S' (fun b=>S'.nx≤b∨H b) a' w'→Fut G w G' w'→QQ .normal a' w')→wpListIn Fence.wide 0 P ops QQ l a w
theorem LS.nil {ops:Array Oper}{base i:Nat}{Q:Env→St→Prop} (h:Q E S):LS P ops base i [] E S Q :=
  fun _ _ m0 w0 G a w H hH hr QQ hQ=>hQ G E S a w h (Keeps.refl _) (hr.less fun b hb=>.inr hb) (Fut.refl _ _)
def wantS (ops:Array Oper) (E:Env) (o:Oper):Option Bool :=
  match o.guard with
  | none=>some true
  | some (j,want)=>match (ops[j]?).bind (·.dst) with
    | some d=>match evalO E (.tmp d) with
      | some (.d (.v (.bool b)))=>some (b == want)
      | some (.d (.v (.tuple _)))=>some false
      | _=>none
    | none=>none
theorem wantS_ok {m0:Nat→Nat}{w0:World}{G:Gh}{F:Nat→Prop}{a:Act}{w:World}{ops:Array Oper}{o:Oper}{b:Bool} (h:Rel m0 w0 G E S F a w) (hw:wantS ops E o=some b):Region.wanted o (yielded ops a.tmps)=b:=by
  unfold wantS at hw
  unfold Region.wanted
  split at hw
  · rename_i hg;rw[hg];simp only[Option.some.injEq] at hw;exact hw
  · rename_i j want hg
    rw[hg]
    simp only
    split at hw
    · rename_i d hd
      unfold yielded
      rw[hd]
      simp only[Option.bind_some]
      split at hw
      · rename_i c hE
        simp only[Option.some.injEq] at hw;subst hw
        have:a.tmps.getD d undef=_:=evalO_v h hE
        simp only[Array.getD_eq_getD_getElem?] at this
        cases hx:a.tmps[d]? with
        | none=>rw[hx] at this;simp[undef] at this
        | some x=>rw[hx] at this;simp only[Option.getD_some] at this;subst this;cases c<;>cases want<;>rfl
      · rename_i vs hE
        simp only[Option.some.injEq] at hw;subst hw
        have:a.tmps.getD d undef=_:=evalO_v h hE
        simp only[Array.getD_eq_getD_getElem?] at this
        cases hx:a.tmps[d]? with
        | none=>rfl
        | some x=>rw[hx] at this;simp only[Option.getD_some] at this;subst this;rfl
      · cases hw
    · cases hw
theorem LS.cons {ops:Array Oper}{base i:Nat}{o:Oper}{l:List Oper}{s:SV}{Q:Env→St→Prop} (hw:wantS ops E o=some true) (hd:∀ d,o.dst=some d→d<S.n) (hs:OpS P (base+i) E S o s S')
    (h:LS P ops base (i+1) l (E.put o.dst s) S' Q):LS P ops base i (o::l) E S Q:=by
  intro hlen hnx m0 w0 G a w H hH hr QQ hQ
  simp only[List.length_cons] at hlen
  have hk:=hs.1.nx
  unfold wpListIn
  rw[if_pos (wantS_ok hr hw)]
  refine (hs.2 m0 w0 G _ a w hr (.inl ⟨Nat.le_refl _,by omega⟩) (fun b hb=>.inr (.inl hb)) _ _ (fun G' u w' hu hr' f=>?_))
  refine h (by omega) (by omega) m0 w0 G' _ w' H hH ((hr'.less (fun b hb=>?_)).put (fun k hk=>by rw[hs.1.n];exact hd k hk) hu) QQ (fun G'' E'' S'' a'' w'' hq hn hr'' f'=>?_)
  · rcases hb with hb | hb | hb
    · exact⟨.inl ⟨by omega,hb.2⟩,by omega,by omega⟩
    · exact⟨.inr (.inl (by omega)),by omega,by omega⟩
    · have:=hH b hb
      exact⟨.inr (.inr hb),by omega,by omega⟩
  · exact hQ G'' E'' S'' a'' w'' hq (hs.1.trans hn) hr'' (f.trans f')
def OpX (P:Program) (id:Nat) (E:Env) (S:St) (o:Oper) (Q:SV→Eff→Prop):Prop :=
  ∀ (m0:Nat→Nat) (w0:World) (G:Gh) (F:Nat→Prop) (a:Act) (w:World),Rel m0 w0 G E S F a w→F id→∃ s e,Q s e∧Does P m0 w0 G E S F a w o s (S.app id e) (fun b=>F b∧b≠id)
theorem app_keeps (id:Nat) (e:Eff):Keeps S (S.app id e):=by cases e<;>exact⟨rfl,rfl,rfl,Nat.le_refl _⟩
theorem LS.consX {ops:Array Oper}{base i:Nat}{o:Oper}{l:List Oper}{Q:Env→St→Prop}{R:SV→Eff→Prop} (hw:wantS ops E o=some true) (hd:∀ d,o.dst=some d→d<S.n) (hs:OpX P (base+i) E S o R)
    (h:∀ s e,R s e→LS P ops base (i+1) l (E.put o.dst s) (S.app (base+i) e) Q):LS P ops base i (o::l) E S Q:=by
  intro hlen hnx m0 w0 G a w H hH hr QQ hQ
  simp only[List.length_cons] at hlen
  unfold wpListIn
  rw[if_pos (wantS_ok hr hw)]
  obtain⟨s,e,hR,n,u,w',G',h1,h2,h3,h4,h5⟩:=hs m0 w0 G _ a w hr (.inl ⟨Nat.le_refl _,by omega⟩)
  have hk:=app_keeps (S:=S) (base+i) e
  have step:wpListIn Fence.wide 0 P ops QQ l (a.put o.dst u) w':=by
    refine h s e hR (by omega) (by have:=hk.nx;omega) m0 w0 G' _ w' H hH ((h4.less (fun b hb=>?_)).put (fun k hk'=>by rw[hk.n];exact hd k hk') h3) QQ (fun G'' E'' S'' a'' w'' hq hn hr'' f'=>hQ G'' E'' S'' a'' w'' hq (hk.trans hn) hr'' (h5.trans f'))
    rcases hb with hb | hb | hb
    · exact⟨.inl ⟨by omega,hb.2⟩,by omega⟩
    · exact⟨.inr (.inl (by have:=hk.nx;omega)),by have:=hk.nx;omega⟩
    · have:=hH b hb
      exact⟨.inr (.inr hb),by omega⟩
  refine wq_of_wp ?_
  unfold Oper.wp
  rw[h1]
  rcases h2 with rfl | ⟨rfl,rfl⟩
  · exact step
  · exact step
theorem LS.skip {ops:Array Oper}{base i:Nat}{o:Oper}{l:List Oper}{Q:Env→St→Prop} (hw:wantS ops E o=some false) (hd:∀ d,o.dst=some d→d<S.n)
    (h:LS P ops base (i+1) l (E.put o.dst (.d (.v undef))) S Q):LS P ops base i (o::l) E S Q:=by
  intro hlen hnx m0 w0 G a w H hH hr QQ hQ
  simp only[List.length_cons] at hlen
  unfold wpListIn
  rw[if_neg (by rw[wantS_ok hr hw];simp)]
  refine⟨fun _ _=>trivial,?_⟩
  refine h (by omega) hnx m0 w0 G _ w H hH ((hr.less (fun b hb=>?_)).put hd (.d (.v rfl))) QQ hQ
  rcases hb with hb | hb
  · exact .inl ⟨by omega,hb.2⟩
  · exact .inr hb
def CS (P:Program) (c:Code) (E:Env) (S:St) (Q:Exit→Env→St→Prop):Prop :=
  ∀ (m0:Nat→Nat) (w0:World) (G:Gh) (a:Act) (w:World) (H:Nat→Prop),(∀ b,H b→b<S.nx)→Rel m0 w0 G E S (fun b=>S.nx≤b∨H b) a w→∀ QQ:Exit→Act→World→Prop,
    (∀ ex G' E' S' a' w',Q ex E' S'→Keeps S S'→Rel m0 w0 G' E' S' (fun b=>S'.nx≤b∨H b) a' w'→Fut G w G' w'→QQ ex a' w')→c.wp P QQ a w
theorem CS.mono {c:Code}{Q Q':Exit→Env→St→Prop} (h:CS P c E S Q) (hq:∀ ex E S,Q ex E S→Q' ex E S):CS P c E S Q' :=
  fun m0 w0 G a w H hH hr QQ hQ=>h m0 w0 G a w H hH hr QQ (fun ex G' E' S' a' w' q=>hQ ex G' E' S' a' w' (hq _ _ _ q))
theorem CS.skip {Q:Exit→Env→St→Prop} (h:Q .normal E S):CS P .skip E S Q:=fun m0 w0 G a w H hH hr QQ hQ=>wp_skip (hQ _ _ _ _ _ _ h (Keeps.refl _) hr (Fut.refl _ _))
theorem CS.label {l:Nat}{Q:Exit→Env→St→Prop} (h:Q .normal E S):CS P (.label l) E S Q:=fun m0 w0 G a w H hH hr QQ hQ=>wp_label (hQ _ _ _ _ _ _ h (Keeps.refl _) hr (Fut.refl _ _))
theorem CS.exit {id:Nat}{Q:Exit→Env→St→Prop} (h:Q (.exit id) E S):CS P (.exit id) E S Q:=fun m0 w0 G a w H hH hr QQ hQ=>wp_exit (hQ _ _ _ _ _ _ h (Keeps.refl _) hr (Fut.refl _ _))
theorem CS.ret {Q:Exit→Env→St→Prop} (h:Q .ret E S):CS P .ret E S Q:=fun m0 w0 G a w H hH hr QQ hQ=>wp_ret (hQ _ _ _ _ _ _ h (Keeps.refl _) hr (Fut.refl _ _))
def Then (N:Env→St→Prop) (Q:Exit→Env→St→Prop):Exit→Env→St→Prop
  | .normal,E,S=>N E S
  | e,E,S=>Q e E S
theorem CS.seq {x y:Code}{Q:Exit→Env→St→Prop} (h:CS P x E S (Then (fun E' S'=>CS P y E' S' Q) Q)):CS P (.seq x y) E S Q:=by
  intro m0 w0 G a w H hH hr QQ hQ
  refine wp_seq (h m0 w0 G a w H hH hr _ (fun ex G' E' S' a' w' q hn hr' f=>?_))
  cases ex with
  | normal=>exact q m0 w0 G' a' w' H (fun b hb=>Nat.lt_of_lt_of_le (hH b hb) hn.nx) hr' QQ (fun ex G'' E'' S'' a'' w'' q' hn' hr'' f'=>hQ ex G'' E'' S'' a'' w'' q' (hn.trans hn') hr'' (f.trans f'))
  | _=>exact hQ _ G' E' S' a' w' q hn hr' f
theorem CS.cond {c:Operand}{x y:Code}{b:Bool}{Q:Exit→Env→St→Prop} (hc:evalO E c=some (.d (.v (.bool b)))) (ht:b=true→CS P x E S Q) (hf:b=false→CS P y E S Q):CS P (.cond c x y) E S Q:=by
  intro m0 w0 G a w H hH hr QQ hQ
  refine wp_cond_split (evalO_v hr hc) (fun h=>ht h m0 w0 G a w H hH hr QQ hQ) (fun h=>hf h m0 w0 G a w H hH hr QQ hQ)
def InBlock (id:Nat) (Q:Exit→Env→St→Prop):Exit→Env→St→Prop
  | .exit id',E,S=>if id'=id then Q .normal E S else Q (.exit id') E S
  | e,E,S=>Q e E S
theorem CS.block {id:Nat}{c:Code}{Q:Exit→Env→St→Prop} (h:CS P c E S (InBlock id Q)):CS P (.block id c) E S Q:=by
  intro m0 w0 G a w H hH hr QQ hQ
  refine wp_block (h m0 w0 G a w H hH hr _ (fun ex G' E' S' a' w' q hn hr' f=>?_))
  cases ex with
  | exit id' =>
    simp only[InBlock] at q
    simp only[Exit.inBlock]
    split at q
    · rename_i e;rw[if_pos e];exact hQ _ G' E' S' a' w' q hn hr' f
    · rename_i e;rw[if_neg e];exact hQ _ G' E' S' a' w' q hn hr' f
  | _=>exact hQ _ G' E' S' a' w' q hn hr' f
theorem CS.loop {c:Code}{Q:Exit→Env→St→Prop} (I:Env→St→Prop) (μ:Env→St→Nat) (h0:I E S)
    (round:∀ E1 S1,Keeps S S1→I E1 S1→CS P c E1 S1 (Then (fun E' S'=>I E' S'∧μ E' S'<μ E1 S1) Q)):CS P (.loop c) E S Q:=by
  intro m0 w0 G a w H hH hr QQ hQ
  intro b k cs
  have key:∀ n (E1:Env) (S1:St) G1 a1 w1,μ E1 S1=n→I E1 S1→Keeps S S1→Rel m0 w0 G1 E1 S1 (fun b=>S1.nx≤b∨H b) a1 w1→Fut G w G1 w1 →
      ∃ e a' w',QQ e a' w'∧Arrives P (lone (b.at a1 (.code c::.inLoop c::k)) cs w1) b k cs e a' w':=by
    intro n
    induction n using Nat.strongRecOn with
    | _ n ih =>
      intro E1 S1 G1 a1 w1 hμ hI hn1 hr1 f1
      have hround:=round E1 S1 hn1 hI m0 w0 G1 a1 w1 H (fun b hb=>Nat.lt_of_lt_of_le (hH b hb) hn1.nx) hr1 (fun ex a' w'=>match ex with
        | .normal=>∃ E' S' G',I E' S'∧μ E' S'<μ E1 S1∧Keeps S S'∧Rel m0 w0 G' E' S' (fun b=>S'.nx≤b∨H b) a' w'∧Fut G w G' w'
        | ex=>QQ ex a' w') (fun ex G' E' S' a' w' q hn hr' f=>by
        cases ex with
        | normal=>exact⟨E',S',G',q.1,q.2,hn1.trans hn,hr',f1.trans f⟩
        | _=>exact hQ _ G' E' S' a' w' q (hn1.trans hn) hr' (f1.trans f))
      obtain⟨e,a₁,w₁,hq,harr⟩:=hround b (.inLoop c::k) cs
      cases e with
      | normal =>
        obtain⟨E',S',G',q1,q2,q3,q4,q5⟩:=hq
        obtain⟨e2,a2,w2,hq2,harr2⟩:=ih _ (by rw[← hμ];exact q2) E' S' G' a₁ w₁ rfl q1 q3 q4 q5
        exact⟨e2,a2,w2,hq2, .of_steps (Steps.trans harr (.one step_inLoop)) harr2⟩
      | exit id=>exact⟨_,a₁,w₁,hq, .pass (x:=.inLoop c) rfl (fun _ _=>.inl (by simp)) harr⟩
      | goto l=>exact⟨_,a₁,w₁,hq, .pass (x:=.inLoop c) rfl (fun _ _=>.inl (by simp)) harr⟩
      | ret=>exact⟨_,a₁,w₁,hq, .pass (x:=.inLoop c) rfl (fun _ _=>.inl (by simp)) harr⟩
      | panic ch=>exact⟨_,a₁,w₁,hq, .pass (x:=.inLoop c) rfl (fun _ _=>.inl (by simp)) harr⟩
      | outgrown=>exact⟨_,a₁,w₁,hq, .pass (x:=.inLoop c) rfl (fun _ _=>.inl (by simp)) harr⟩
  obtain⟨e,a',w',hq,harr⟩:=key _ E S G a w rfl h0 (Keeps.refl _) hr (Fut.refl _ _)
  exact⟨e,a',w',hq, .of_steps (.one step_loop) harr⟩
def St.adv (S:St) (k:Nat):St:={ S with nx:=S.nx+k }
theorem Rel.adv {m0:Nat→Nat}{w0:World}{G:Gh}{F:Nat→Prop}{a:Act}{w:World} (h:Rel m0 w0 G E S F a w) (k:Nat):Rel m0 w0 G E (S.adv k) F a w :=
  ⟨h.env,h.size,h.few,h.box,h.inj,h.tip,h.tinj,h.tlt,h.tbox,h.fresh,h.new,h.low,h.below,h.defers,h.glob,h.more.keep (Fut.refl _ _) (.refl _) (fun _ _ _ h _=>h) rfl (fun _ _ _=>rfl) rfl (fun _ h=>h) rfl⟩
theorem CS.region {id:Nat}{ops:List Oper}{Q:Exit→Env→St→Prop} (h:LS P ops.toArray S.nx 0 ops E (S.adv ops.length) (fun E' S'=>Q .normal E' S')):CS P (.region id ops.toArray false) E S Q:=by
  intro m0 w0 G a w H hH hr QQ hQ
  refine (wpIn_wide (n:=0)).1 (wpIn_region_lit (h (by simp) (by simp[St.adv]) m0 w0 G a w H hH ((hr.adv ops.length).less (fun b hb=>by simp[St.adv] at hb;rcases hb with hb | hb | hb<;>first | exact .inr hb | exact .inl (by omega))) QQ (fun G' E' S' a' w' q hn hr' f=>?_)))
  exact hQ .normal G' E' S' a' w' q ⟨hn.n,hn.md,hn.gl,by have:=hn.nx;simp[St.adv] at this;omega⟩ hr' f
def resOne (P:Program) (E:Env) (S:St):ResultVar→Option SV
  | .tmp t=>evalO E (.tmp t)
  | .cell t T=>match evalO E (.tmp t) with
    | some (.op b off)=>match S.B b with
      | some cs=>loadS P T cs off
      | none=>none
    | _=>none
def resList (P:Program) (E:Env) (S:St):List ResultVar→Option (List SV)
  | []=>some []
  | x::r=>match resOne P E S x,resList P E S r with
    | some s,some ss=>some (s::ss)
    | _,_=>none
def resS (P:Program) (E:Env) (S:St) (rs:List ResultVar):Option SV :=
  match resList P E S rs with
  | some [s]=>some s
  | some ss=>some (.tu ss)
  | none=>none
def resM (a:Act):ResultVar→Sem Value
  | .tmp t=>Pure.pure (a.tmps.getD t undef)
  | .cell t T=>do loadVar T (← asAddr (a.tmps.getD t undef))
theorem resOne_ok {m0:Nat→Nat}{w0:World}{G:Gh}{F:Nat→Prop}{a:Act}{w:World} (h:Rel m0 w0 G E S F a w) {x:ResultVar}{s:SV} (hs:resOne P E S x=some s) :
    ∃ u,(resM a x).run P w=.ok u w∧VR G w s u:=by
  cases x with
  | tmp t=>exact⟨_,rfl,evalO_ok h (show evalO E (.tmp t)=some s from hs)⟩
  | cell t T =>
    simp only[resOne] at hs
    split at hs
    · rename_i b off hE
      split at hs
      · rename_i cs hb
        obtain⟨B',hg,hx⟩:=(evalO_ok h hE).op_inv
        have hx:a.tmps.getD t undef=_:=hx
        obtain⟨B,us,T',h1,h2,h3,h4,h5,hu0,h6⟩:=h.box b cs hb (h.boxOf hb hg)
        obtain rfl:B=B':=Option.some.inj (h1.symm.trans hg)
        have hus:∀ j,j<cs.length→w.cell? ⟨B,0+j,none⟩=some (us.getD j undef):=fun j hj=>by
          rw[Nat.zero_add,cell_of_heap h2,Array.getElem?_eq_getElem (by omega)]
          simp[Array.getD_eq_getD_getElem?,Array.getElem?_eq_getElem (show j<us.size by omega)]
        obtain⟨u,g1,g2⟩:=loadG_ok (w:=w) (C:=fun x=>SV.cell x=true) (R:=VR G w) (fun _ _ a b c=>.ag a b c) (us:=fun j=>us.getD j undef) hs hus (fun j hj=>(h6 j hj (by omega)).1) (fun j hj=>by
          have:=(h6 j hj (by omega)).2
          simpa[Array.getD_eq_getD_getElem?,Array.getElem?_eq_getElem (show j<us.size by omega)] using this)
        rw[Nat.zero_add] at g1
        refine⟨u,?_,g2⟩
        simp only[resM,hx]
        simp[asAddr,g1]
      · cases hs
    · cases hs
theorem resList_ok {m0:Nat→Nat}{w0:World}{G:Gh}{F:Nat→Prop}{a:Act}{w:World} (h:Rel m0 w0 G E S F a w):∀ {xs:List ResultVar}{ss:List SV},resList P E S xs=some ss →
    ∃ us,(xs.mapM (resM a)).run P w=.ok us w∧us.length=ss.length∧∀ j (hj:j<ss.length) (hj':j<us.length),VR G w ss[j] us[j]
  | [],ss,hs=>by
    simp only[resList,Option.some.injEq] at hs;subst hs
    exact⟨[],rfl,rfl,fun j hj=>by simp at hj⟩
  | x::r,ss,hs=>by
    simp only[resList] at hs
    split at hs
    · rename_i s ss' h1 h2
      simp only[Option.some.injEq] at hs;subst hs
      obtain⟨u,g1,g2⟩:=resOne_ok h h1
      obtain⟨us,k1,k2,k3⟩:=resList_ok h h2
      refine⟨u::us,?_,by simp[k2],fun j hj hj'=>?_⟩
      · rw[List.mapM_cons]
        simp only[Sem.run_bind]
        rw[g1]
        simp only[Result.andThen_ok]
        rw[k1]
        rfl
      · cases j with
        | zero=>exact g2
        | succ j=>exact k3 j (by simpa using hj) (by simpa using hj')
    · cases hs
theorem resS_ok {m0:Nat→Nat}{w0:World}{G:Gh}{F:Nat→Prop}{a:Act}{w:World} (h:Rel m0 w0 G E S F a w) {fn:Func}{s:SV} (hs:resS P E S fn.results.toList=some s) :
    ∃ u,(results fn a.tmps).run P w=.ok u w∧VR G w s u:=by
  unfold resS at hs
  have arr:∀ us:List Value,(fn.results.toList.mapM (resM a)).run P w=.ok us w →
      (results fn a.tmps).run P w=.ok (if h:us.toArray.size=1 then us.toArray[0] else .tuple us.toArray) w:=by
    intro us hu
    have e:results fn a.tmps=(do let vs ← fn.results.mapM (resM a);Pure.pure (if h:vs.size=1 then vs[0] else .tuple vs)):=by
      unfold results
      congr 1
    rw[e,Array.mapM_eq_mapM_toList]
    simp only[Sem.run_bind,Sem.run_map]
    rw[hu]
    rfl
  split at hs
  · rename_i s' hl
    simp only[Option.some.injEq] at hs;subst hs
    obtain⟨us,h1,h2,h3⟩:=resList_ok h hl
    match us,h2 with
    | [u],_=>exact⟨u,by rw[arr _ h1];rfl,h3 0 (by simp) (by simp)⟩
  · rename_i ss hne hl
    simp only[Option.some.injEq] at hs;subst hs
    obtain⟨us,h1,h2,h3⟩:=resList_ok h hl
    refine⟨.tuple us.toArray,?_, .tu h2 h3⟩
    rw[arr _ h1,dif_neg]
    intro e
    have:ss.length=1:=by rw[← h2];simpa using e
    match ss,this with
    | [x],_=>exact hne x rfl
  · cases hs
def mapO {α β:Type} (f:α→Option β):List α→Option (List β)
  | []=>some []
  | x::r=>match f x,mapO f r with
    | some y,some ys=>some (y::ys)
    | _,_=>none
theorem mapO_get {α β:Type}{f:α→Option β}:∀ {l:List α}{r:List β},mapO f l=some r→r.length=l.length∧∀ j (h:j<l.length) (h':j<r.length),f l[j]=some r[j]
  | [],r,h=>by simp only[mapO,Option.some.injEq] at h;subst h;exact⟨rfl,fun j hj=>by simp at hj⟩
  | x::l,r,h=>by
    simp only[mapO] at h
    split at h
    · rename_i y ys h1 h2
      simp only[Option.some.injEq] at h;subst h
      obtain⟨a,b⟩:=mapO_get h2
      refine⟨by simp[a],fun j hj hj'=>?_⟩
      cases j with
      | zero=>exact h1
      | succ j=>exact b j (by simpa using hj) (by simpa using hj')
    · cases h
theorem mapO_map {α β γ:Type}{f:β→Option γ}{g:α→β}{k:α→γ} (h:∀ x,f (g x)=some (k x)):∀ l:List α,mapO f (l.map g)=some (l.map k)
  | []=>rfl
  | x::l=>by simp only[List.map_cons,mapO,h,mapO_map h l]
def frz (B:Nat→Option (List SV)):Nat→SV→Option D
  | 0,_=>none
  | k+1,s=>match s with
    | .d x=>some x
    | .fl cs n=>some (.ps cs n)
    | .tp _ _ cs n=>some (.ps cs n)
    | .op b off=>match B b with
      | some cs=>(mapO (frz B k) cs).map fun ds=>.pp ds off
      | none=>none
    | .os b off n=>match B b with
      | some cs=>(mapO (frz B k) cs).map fun ds=>.ps (ds.drop off) n
      | none=>none
    | .sk b n _=>match B b with
      | some cs=>(mapO (frz B k) cs).map fun ds=>.ps ds n
      | none=>none
    | .mv b=>match B b with
      | some [.mc ks vs]=>(mapO (frz B k) vs).map (.mp ks)
      | _=>none
    | .iv _ | .mc _ _ | .ic _ _ _ | .yv _ | .lp _ _ _=>none
    | .ls cs n=>(mapO (frz B k) cs).map fun ds=>.ps ds n
    | .ag cs=>(mapO (frz B k) cs).map .agg
    | .tu cs=>(mapO (frz B k) cs).map .tup
    | .fc t x=>(frz B k x).map (.ifc t)
    | .fn f first caps=>match mapO (frz B k) first,mapO (frz B k) caps with
      | some xs,some ys=>some (.fn f xs ys)
      | _,_=>none
theorem frz_cell {B:Nat→Option (List SV)}{k:Nat}{s:SV}{x:D} (h:frz B k s=some x) (hc:s.cell=true):x.cell=true:=by
  cases k with
  | zero=>cases h
  | succ k =>
    cases s<;>simp only[frz] at h
    case d y=>simp only[Option.some.injEq] at h;subst h;exact hc
    case fl=>simp only[Option.some.injEq] at h;subst h;rfl
    case tp=>simp only[Option.some.injEq] at h;subst h;rfl
    case op => split at h
               · simp only[Option.map_eq_some_iff] at h;obtain⟨_,_,rfl⟩:=h;rfl
               · cases h
    case os => split at h
               · simp only[Option.map_eq_some_iff] at h;obtain⟨_,_,rfl⟩:=h;rfl
               · cases h
    case sk => split at h
               · simp only[Option.map_eq_some_iff] at h;obtain⟨_,_,rfl⟩:=h;rfl
               · cases h
    case mv => split at h
               · simp only[Option.map_eq_some_iff] at h;obtain⟨_,_,rfl⟩:=h;rfl
               · cases h
    case ls=>simp only[Option.map_eq_some_iff] at h;obtain⟨_,_,rfl⟩:=h;rfl
    case iv=>cases h
    case mc=>cases h
    case ic=>cases h
    case yv=>cases h
    case lp=>cases h
    case ag=>simp[SV.cell] at hc
    case tu=>simp[SV.cell] at hc
    case fc=>simp only[Option.map_eq_some_iff] at h;obtain⟨_,_,rfl⟩:=h;rfl
    case fn => split at h
               · simp only[Option.some.injEq] at h;subst h;rfl
               · cases h
open Classical in
noncomputable def frzM (S:St) (G:Gh) (X:Nat):Nat:=if h:∃ b cs,S.B b=some cs∧G.box b=some X∧G.obj b=none then h.choose_spec.choose.length else if ∃ b ks vs,S.B b=some [.mc ks vs]∧G.obj b=some X then 1 else G.mark X
theorem frzM_cases {m0:Nat→Nat}{w0:World}{G:Gh}{F:Nat→Prop}{a:Act}{w:World} (h:Rel m0 w0 G E S F a w) (X:Nat) :
    (∃ b cs,S.B b=some cs∧G.box b=some X∧G.obj b=none∧frzM S G X=cs.length)∨(∃ b ks vs,S.B b=some [.mc ks vs]∧G.obj b=some X∧frzM S G X=1) ∨
      ((∀ b cs,S.B b=some cs→G.box b=some X→G.obj b≠none)∧(∀ b ks vs,S.B b=some [.mc ks vs]→G.obj b≠some X)∧frzM S G X=G.mark X):=by
  unfold frzM
  split
  · rename_i hx
    obtain⟨h1,h2,h3⟩:=hx.choose_spec.choose_spec
    exact .inl ⟨_,_,h1,h2,h3,rfl⟩
  · rename_i hx
    split
    · rename_i hy
      obtain⟨b,ks,vs,h1,h2⟩:=hy
      exact .inr (.inl ⟨b,ks,vs,h1,h2,rfl⟩)
    · rename_i hy
      exact .inr (.inr ⟨fun b cs h1 h2 h3=>hx ⟨b,cs,h1,h2,h3⟩,fun b ks vs h1 h2=>hy ⟨b,ks,vs,h1,h2⟩,rfl⟩)
theorem frzM_box {m0:Nat→Nat}{w0:World}{G:Gh}{F:Nat→Prop}{a:Act}{w:World} (h:Rel m0 w0 G E S F a w) {b X:Nat}{cs:List SV} (hb:S.B b=some cs) (hg:G.box b=some X):frzM S G X=cs.length:=by
  have hno:=h.boxOf hb hg
  rcases frzM_cases h X with ⟨b',cs',h1,h2,h3,h4⟩ | ⟨b',ks,vs,h1,h2,h3⟩ | ⟨h1,_,_⟩
  · obtain rfl:b'=b:=h.inj _ _ X (by rw[h1];simp) (by rw[hb];simp) h2 hg
    rw[hb] at h1
    simp only[Option.some.injEq] at h1
    rw[h4,h1]
  · obtain⟨_,_,_,k4⟩:=h.more.obj b' _ X h1 h2
    obtain⟨o,ho1,ho2⟩:=k4.other
    obtain⟨B,us,T,g1,g2,_⟩:=h.box b cs hb hno
    rw[hg] at g1;cases g1
    rw[g2] at ho1;cases ho1
    exact absurd rfl (ho2 _ _ _)
  · exact absurd hno (h1 b cs hb hg)
theorem frzM_map {m0:Nat→Nat}{w0:World}{G:Gh}{F:Nat→Prop}{a:Act}{w:World} (h:Rel m0 w0 G E S F a w) {b X:Nat}{ks:List D}{vs:List SV} (hb:S.B b=some [.mc ks vs]) (hg:G.obj b=some X):frzM S G X=1:=by
  rcases frzM_cases h X with ⟨b',cs',h1,h2,h3,h4⟩ | ⟨b',ks',vs',h1,h2,h3⟩ | ⟨_,h1,_⟩
  · obtain⟨_,_,_,k4⟩:=h.more.obj b _ X hb hg
    obtain⟨o,ho1,ho2⟩:=k4.other
    obtain⟨B,us,T,g1,g2,_⟩:=h.box b' cs' h1 h3
    rw[h2] at g1;cases g1
    rw[g2] at ho1;cases ho1
    exact absurd rfl (ho2 _ _ _)
  · exact h3
  · exact absurd hg (h1 b ks vs hb)
theorem frzM_le {m0:Nat→Nat}{w0:World}{G:Gh}{F:Nat→Prop}{a:Act}{w:World} (h:Rel m0 w0 G E S F a w) (X:Nat):G.mark X≤frzM S G X:=by
  rcases frzM_cases h X with ⟨b,cs,h1,h2,h3,h4⟩ | ⟨b,ks,vs,h1,h2,h3⟩ | ⟨_,_,h3⟩
  · obtain⟨B,us,T,g1,g2,g3,g4,_⟩:=h.box _ _ h1 h3
    rw[h2] at g1;cases g1
    rw[g4];exact Nat.zero_le _
  · rw[(h.more.obj b _ X h1 h2).2.1];exact Nat.zero_le _
  · exact Nat.le_of_eq h3.symm
theorem frzM_low {m0:Nat→Nat}{w0:World}{G:Gh}{F:Nat→Prop}{a:Act}{w:World} (h:Rel m0 w0 G E S F a w) {X:Nat} (hX:X<w0.heap.size∨w.heap.size≤X):frzM S G X=G.mark X:=by
  rcases frzM_cases h X with ⟨b,cs,h1,h2,h3,h4⟩ | ⟨b,ks,vs,h1,h2,h3⟩ | ⟨_,_,h3⟩
  · obtain⟨B,us,T,g1,g2,g3,g4,g5,_⟩:=h.box _ _ h1 h3
    rw[h2] at g1;cases g1
    have:=lt_of_heap g2
    omega
  · obtain⟨_,_,k3,k4⟩:=h.more.obj b _ X h1 h2
    obtain⟨o,ho1,_⟩:=k4.other
    have:=lt_of_heap ho1
    omega
  · exact h3
theorem frzM_ok {m0:Nat→Nat}{w0:World}{G:Gh}{F:Nat→Prop}{a:Act}{w:World} (h:Rel m0 w0 G E S F a w) (hg:S.gl cleanAt≠none):MOK (frzM S G) w:=by
  intro X hX
  rcases frzM_cases h X with ⟨b,cs,h1,h2,h3,h4⟩ | ⟨b,ks,vs,h1,h2,h3⟩ | ⟨_,_,h3⟩
  · obtain⟨B,us,T,g1,g2,g3,g4,g5,gu,_⟩:=h.box _ _ h1 h3
    rw[h2] at g1;cases g1
    rw[show T.2=(0,0) from gu] at g2
    exact .inl ⟨us,T.1,g2⟩
  · obtain⟨_,_,_,k4⟩:=h.more.obj b _ X h1 h2
    cases k4 with
    | mp es hb _ _ _ _ _=>exact .inr (.inr ⟨es,_,hb⟩)
  · rw[h3] at hX ⊢
    exact h.more.clean hg X hX
theorem frz_ok {m0:Nat→Nat}{w0:World}{G:Gh}{F:Nat→Prop}{a:Act}{w:World} (h:Rel m0 w0 G E S F a w):∀ {k:Nat}{s:SV}{x:D}{u:Value},frz S.B k s=some x→VR G w s u→PV (frzM S G) w x u
  | 0,_,_,_,hf,_=>by cases hf
  | k+1,s,x,u,hf,hv=>by
    have lift:∀ {y:D} {v:Value},PV G.mark w y v→PV (frzM S G) w y v:=fun hp=>hp.keep (frzM_le h) (fun _ _ _=>rfl) (fun _ _ _ _ h=>h)
    have cells:∀ {b B0:Nat} {cs:List SV} {ds:List D},S.B b=some cs→G.box b=some B0→mapO (frz S.B k) cs=some ds→∃ B,G.box b=some B∧∃ us:Nat→Value,ds.length=cs.length ∧
        (∀ j,j<ds.length→j<frzM S G B∧w.cell? ⟨B,j,none⟩=some (us j))∧(∀ j (hj:j<ds.length),(ds[j]).cell=true)∧∀ j (hj:j<ds.length),PV (frzM S G) w ds[j] (us j):=by
      intro b B0 cs ds hb hg0 hm
      obtain⟨h1,h2⟩:=mapO_get hm
      obtain⟨B,us,T,g1,g2,g3,g4,g5,gu0,g6⟩:=h.box b cs hb (h.boxOf hb hg0)
      refine⟨B,g1,fun j=>us.getD j undef,h1,fun j hj=>⟨by rw[frzM_box h hb g1];omega,?_⟩,fun j hj=>frz_cell (h2 j (by omega) hj) (g6 j (by omega) (by omega)).1,fun j hj=>?_⟩
      · rw[cell_of_heap g2,Array.getElem?_eq_getElem (by omega)]
        simp[Array.getD_eq_getD_getElem?,Array.getElem?_eq_getElem (show j<us.size by omega)]
      · have:=(g6 j (by omega) (by omega)).2
        have e:us.getD j undef=us[j]'(by omega):=by simp[Array.getD_eq_getD_getElem?,Array.getElem?_eq_getElem (show j<us.size by omega)]
        show PV _ _ _ (us.getD j undef)
        rw[e]
        exact frz_ok h (h2 j (by omega) hj) this
    cases hv with
    | d hp=>simp only[frz,Option.some.injEq] at hf;subst hf;exact lift hp
    | fl hp hc=>simp only[frz,Option.some.injEq] at hf;subst hf;exact lift hp
    | tp hp ht hn he=>simp only[frz,Option.some.injEq] at hf;subst hf;exact lift hp
    | op hg =>
      rename_i b off B0
      simp only[frz] at hf
      split at hf
      · rename_i cs hb
        simp only[Option.map_eq_some_iff] at hf
        obtain⟨ds,hm,rfl⟩:=hf
        obtain⟨B,g1,us,g2,g3,g4,g5⟩:=cells hb hg hm
        rw[hg] at g1;cases g1
        have:=PV.pp (m:=frzM S G) (w:=w) (cs:=ds) (off:=off) (o:=0) us (fun j hj=>by rw[Nat.zero_add];exact g3 j hj) g4 g5
        rw[Nat.zero_add] at this
        exact this
      · cases hf
    | os hg hn =>
      rename_i b off n c B0
      simp only[frz] at hf
      split at hf
      · rename_i cs hb
        simp only[Option.map_eq_some_iff] at hf
        obtain⟨ds,hm,rfl⟩:=hf
        obtain⟨B,g1,us,g2,g3,g4,g5⟩:=cells hb hg hm
        rw[hg] at g1;cases g1
        have:=PV.part (l:=off) (k:=ds.length) (n':=n) (c':=c) (PV.ps (m:=frzM S G) (w:=w) (cs:=ds) (n:=0) (c:=0) (o:=0) us (Nat.le_refl _) (fun j hj=>by rw[Nat.zero_add];exact g3 j hj) g4 g5) hn
        rw[List.take_of_length_le (by simp),Nat.zero_add] at this
        exact this
      · cases hf
    | sk hg hn hbb hr =>
      rename_i b n sz c B0 us0 T0 fr0
      simp only[frz] at hf
      split at hf
      · rename_i cs hb
        simp only[Option.map_eq_some_iff] at hf
        obtain⟨ds,hm,rfl⟩:=hf
        obtain⟨B,g1,us,g2,g3,g4,g5⟩:=cells hb hg hm
        rw[hg] at g1;cases g1
        exact .ps us hn (fun j hj=>by rw[Nat.zero_add];exact g3 j hj) g4 g5
      · cases hf
    | mv hg =>
      rename_i b B0
      simp only[frz] at hf
      split at hf
      · rename_i ks vs hb
        simp only[Option.map_eq_some_iff] at hf
        obtain⟨ds,hm,rfl⟩:=hf
        obtain⟨d1,d2⟩:=mapO_get hm
        obtain⟨_,_,_,k4⟩:=h.more.obj b _ B0 hb hg
        cases k4 with
        | mp es hb' h1 h2 hborn hk hv =>
          exact .mp es (by rw[frzM_map h hb hg];omega) hb' h1 (by omega) hborn (fun j hj hj'=>lift (hk j hj hj')) (fun j hj hj'=>frz_ok h (d2 j (by omega) hj) (hv j (by omega) hj'))
      · cases hf
    | iv _=>simp only[frz] at hf;cases hf
    | yv _=>simp only[frz] at hf;cases hf
    | ls us hn hc hk hv =>
      simp only[frz,Option.map_eq_some_iff] at hf
      obtain⟨ds,hm,rfl⟩:=hf
      obtain⟨h1,h2⟩:=mapO_get hm
      exact .ps us hn (fun j hj=>⟨Nat.lt_of_lt_of_le (hc j (by omega)).1 (frzM_le h _),(hc j (by omega)).2⟩) (fun j hj=>frz_cell (h2 j (by omega) hj) (hk j (by omega))) (fun j hj=>frz_ok h (h2 j (by omega) hj) (hv j (by omega)))
    | ag hl hk hv =>
      simp only[frz,Option.map_eq_some_iff] at hf
      obtain⟨ds,hm,rfl⟩:=hf
      obtain⟨h1,h2⟩:=mapO_get hm
      exact .agg (by omega) (fun j hj=>frz_cell (h2 j (by omega) hj) (hk j (by omega))) (fun j hj hj'=>frz_ok h (h2 j (by omega) hj) (hv j (by omega) hj'))
    | tu hl hv =>
      simp only[frz,Option.map_eq_some_iff] at hf
      obtain⟨ds,hm,rfl⟩:=hf
      obtain⟨h1,h2⟩:=mapO_get hm
      exact .tup (by omega) (fun j hj hj'=>frz_ok h (h2 j (by omega) hj) (hv j (by omega) hj'))
    | fc hv =>
      simp only[frz,Option.map_eq_some_iff] at hf
      obtain⟨y,hy,rfl⟩:=hf
      exact .ifc (frz_ok h hy hv)
    | fn hl hm hv hu =>
      simp only[frz] at hf
      split at hf
      · rename_i xs ys h1 h2
        simp only[Option.some.injEq] at hf;subst hf
        obtain⟨a1,a2⟩:=mapO_get h1
        obtain⟨b1,b2⟩:=mapO_get h2
        exact .fn (by omega) (by omega) (fun j hj hj'=>frz_ok h (a2 j (by omega) hj) (hv j (by omega) hj')) (fun j hj hj'=>frz_ok h (b2 j (by omega) hj) (hu j (by omega) hj'))
      · cases hf
  termination_by k=>k
def startE (gl:Nat→Option D) (args:List SV):Env:=fun k=>if k<globalsAt then args[k]? else (gl (k - globalsAt)).map .d
def startS (gl:Nat→Option D) (md:List Nat) (n:Nat):St:={ B:=fun _=>none,T:=fun _=>none,n:=n,nx:=0,md:=md,gl:=gl }
theorem start_slots {gl:Nat→Option D}{G:Gh}{w:World}{ss:List SV}{vals:List Value}{n ntmps:Nat} (hl:vals.length=ss.length) (hle:ss.length≤n) (hv:∀ j (h:j<ss.length) (h':j<vals.length),VR G w ss[j] vals[j]) (hg:∀ g x,gl g=some x→PV G.mark w x (.pointer (some ⟨g,0,none⟩))) (rest:Array Value) :
    ∀ k s,startE gl ss k=some s→VR G w s (slotOf { tmps:=vals.toArray++rest,defers:=[] } k):=by
  intro k s hk
  unfold startE at hk
  unfold slotOf
  split at hk
  · rename_i hlt
    rw[if_pos hlt]
    obtain⟨h1,rfl⟩:=List.getElem?_eq_some_iff.1 hk
    have:(vals.toArray++rest).getD k undef=vals[k]'(by omega):=by
      simp only[Array.getD_eq_getD_getElem?]
      rw[Array.getElem?_append_left (by simp;omega)]
      simp[List.getElem?_eq_getElem (show k<vals.length by omega)]
    rw[this]
    exact hv k h1 (by omega)
  · rename_i hlt
    rw[if_neg hlt]
    simp only[Option.map_eq_some_iff] at hk
    obtain⟨x,hx,rfl⟩:=hk
    exact .d (hg _ x hx)
theorem PCall.of {gl : Nat → Option D} {md : List Nat} {f : FuncId} {fn : Func} {c : Code} {args : List D} {r : D} (hf : P.funcs[f]? = some fn) (hb : fn.body = some c) (hname : (fn.name == "runtime.NumGoroutine") = false) {n : Nat} (hn : fn.ntmps = n) (hle : args.length ≤ n) (hfew : n ≤ globalsAt)
    (h:CS P c (startE gl (args.map .d)) (startS gl md n) (fun ex E S=>(ex=.normal∨ex=.ret)∧∃ s,resS P E S fn.results.toList=some s∧frz S.B 16 s=some r)):PCall P gl f args r:=by
  refine⟨⟨fn,hf,hname,by rw[hb];rfl⟩,fun m w vals hm hg hl hv=>calls_of_wp hf hb ?_⟩
  have hsz:(vals.toArray++Array.replicate (fn.ntmps - vals.toArray.size) undef).size=n:=by simp;omega
  have hstart:=start_slots (gl:=gl) (G:=⟨fun _=>none,fun _=>none,m,fun _=>none⟩) (w:=w) (ss:=args.map .d) (vals:=vals) (n:=n) (ntmps:=n) (by simpa using hl) (by simpa using hle) (fun j hj hj'=>by
    have:(args.map SV.d)[j]=.d (args[j]'(by simpa using hj)):=by simp
    rw[this]
    exact .d (hv j (by simpa using hj) hj')) hg.1 (Array.replicate (fn.ntmps - vals.toArray.size) undef)
  refine h m w ⟨fun _=>none,fun _=>none,m,fun _=>none⟩ { tmps:=vals.toArray++Array.replicate (fn.ntmps - vals.toArray.size) undef,defers:=[] } w (fun _=>False) (fun _ hb=>hb.elim)
    ⟨hstart,hsz,hfew,fun b cs hb=>by simp[startS] at hb,fun b b' B hb=>by simp[startS] at hb,fun i k sz hi=>by simp[startS] at hi,fun i i' B v k c v' k' c' hi=>by simp at hi,fun i B v k c hi=>by simp at hi,fun i b B v k c hi=>by simp at hi,fun b hb=>⟨rfl,rfl⟩,hm,fun _ _=>rfl,Below.refl _ _,rfl,hg.1,⟨fun b cs B hb=>by simp[startS] at hb,fun b b' B hb=>by simp[startS] at hb,fun _ _=>rfl,hg.2⟩⟩ _ ?_
  rintro ex G' E' S' a' w' ⟨hex,s,hs,hd⟩ hn' hr' f
  obtain⟨u,hu,hv'⟩:=resS_ok hr' hs
  have hlow:∀ B,B<w.heap.size→frzM S' G' B=m B:=fun B hB=>(frzM_low hr' (.inl hB)).trans (hr'.low B hB)
  have hhigh:∀ B,w'.heap.size≤B→frzM S' G' B=0:=fun B hB=>(frzM_low hr' (.inr hB)).trans (hr'.new B hB)
  have hok:gl cleanAt≠none→∀ B,w.heap.size≤B→0<frzM S' G' B→okB w' B (frzM S' G' B):=fun hgl B _ hB=>frzM_ok hr' (by rw[hn'.gl];exact hgl) B hB
  have fin:a'.defers=[]∧∃ v,(results fn a'.tmps).run P w'=.ok v w'∧(∃ u m',Ending.returned v=Ending.returned u∧PV m' w' r u∧(∀ B,B<w.heap.size→m' B=m B)∧(∀ B,w'.heap.size≤B→m' B=0)∧Below w.heap.size w w'∧(gl cleanAt≠none→∀ B,w.heap.size≤B→0<m' B→okB w' B (m' B))) :=
    ⟨hr'.defers,u,hu,u,frzM S' G',rfl,frz_ok hr' hd hv',hlow,hhigh,hr'.below,hok⟩
  rcases hex with rfl | rfl
  · exact fin
  · exact fin
def Less (S' S1:St):Prop:=(∀ b cs,S'.B b=some cs→S1.B b=some cs)∧(∀ i p,S'.T i=some p→S1.T i=some p)∧S1.nx≤S'.nx
theorem Rel.forget {m0:Nat→Nat}{w0:World}{G:Gh}{F:Nat→Prop}{a:Act}{w:World} (h:Rel m0 w0 G E S F a w) (hl:Less S' S) (hn:S'.n=S.n) (hg:S'.gl=S.gl):Rel m0 w0 G E S' F a w :=
  have ne:∀ b,S'.B b≠none→S.B b≠none:=fun b hb e=>by
    obtain⟨cs,hcs⟩:=Option.ne_none_iff_exists'.1 hb
    rw[hl.1 b cs hcs] at e;cases e
  ⟨h.env,by rw[hn];exact h.size,by rw[hn];exact h.few,fun b cs hb ho=>h.box b cs (hl.1 b cs hb) ho,fun b b' B hb hb'=>h.inj b b' B (ne b hb) (ne b' hb'),fun i k sz hi=>h.tip i k sz (hl.2.1 i _ hi),h.tinj,h.tlt,fun i b B v k c hi hb=>h.tbox i b B v k c hi (ne b hb),h.fresh,h.new,h.low,h.below,h.defers,by rw[hg];exact h.glob,h.more.keep (Fut.refl _ _) (.refl _) (fun b cs B hb _=>hl.1 b cs hb) rfl (fun _ _ _=>rfl) rfl (fun _ h=>h) hg⟩
theorem LCall.of {f : FuncId} {fn : Func} {c : Code} {ss : List SV} {r : SV} {md : List Nat} (hf : P.funcs[f]? = some fn) (hb : fn.body = some c) (hname : (fn.name == "runtime.NumGoroutine") = false) {n : Nat} (hn : fn.ntmps = n) (hle : ss.length ≤ n) (hfew : n ≤ globalsAt) (hk : Keeps S S')
    (h:CS P c (startE S.gl ss) { S with n:=n,md:=md } (fun ex E1 S1=>(ex=.normal∨ex=.ret)∧resS P E1 S1 fn.results.toList=some r∧Less S' S1)):LCall P f ss S r S':=by
  refine⟨⟨fn,hf,hname,by rw[hb];rfl⟩,hk,fun m0 w0 G E F a w vals hr hF hl hv=>calls_of_wp hf hb ?_⟩
  have hsz:(vals.toArray++Array.replicate (fn.ntmps - vals.toArray.size) undef).size=n:=by simp;omega
  have hstart:=start_slots (gl:=S.gl) (G:=G) (w:=w) (ss:=ss) (vals:=vals) (n:=n) (ntmps:=n) hl hle hv hr.glob (Array.replicate (fn.ntmps - vals.toArray.size) undef)
  refine h m0 w0 G { tmps:=vals.toArray++Array.replicate (fn.ntmps - vals.toArray.size) undef,defers:=[] } w (fun b=>F b∧b<S.nx) (fun _ hb=>hb.2)
    ⟨hstart,hsz,hfew,hr.box,hr.inj,hr.tip,hr.tinj,hr.tlt,hr.tbox,fun b hb=>hr.fresh b (hb.elim (hF b) (fun h=>h.1)),hr.new,hr.low,hr.below,rfl,hr.glob,hr.more.keep (Fut.refl _ _) (.refl _) (fun _ _ _ h _=>h) rfl (fun _ _ _=>rfl) rfl (fun b hb=>hb.elim (hF b) (fun h=>h.1)) rfl⟩ _ ?_
  rintro ex G' E' S1 a' w' ⟨hex,hs,hless⟩ hn' hr' f
  obtain⟨u,hu,hv'⟩:=resS_ok hr' hs
  have hnx:S.nx≤S1.nx:=hn'.nx
  have k:=hr'.forget (S':={ S' with n:=S1.n }) hless rfl (hk.gl.trans hn'.gl.symm)
  have fin:a'.defers=[]∧∃ v,(results fn a'.tmps).run P w'=.ok v w'∧(∃ u G'',Ending.returned v=Ending.returned u∧VR G'' w' r u∧Rel m0 w0 G'' E S' (fun b=>F b∧¬ (S.nx≤b∧b<S'.nx)) a w'∧Fut G w G'' w') :=
    ⟨hr'.defers,u,hu,u,G',rfl,hv',⟨fun j s hj=>(hr.env j s hj).fut f,by rw[hk.n];exact hr.size,by rw[hk.n];exact hr.few,k.box,k.inj,k.tip,k.tinj,k.tlt,k.tbox,fun b hb=>hr'.fresh b (by
      have h3:=hless.2.2
      rcases Nat.lt_or_ge b S.nx with hb2 | hb2
      · exact .inr ⟨hb.1,hb2⟩
      · exact .inl (by have:=hb.2;omega)),k.new,k.low,k.below,hr.defers,k.glob,k.more.keep (Fut.refl _ _) (.refl _) (fun _ _ _ h _=>h) rfl (fun _ _ _=>rfl) rfl (fun b hb=>(by
      have h3:=hless.2.2
      rcases Nat.lt_or_ge b S.nx with hb2 | hb2
      · exact .inr ⟨hb.1,hb2⟩
      · exact .inl (by have:=hb.2;omega))) rfl⟩,f⟩
  rcases hex with rfl | rfl
  · exact fin
  · exact fin
end
end Go.Sh
