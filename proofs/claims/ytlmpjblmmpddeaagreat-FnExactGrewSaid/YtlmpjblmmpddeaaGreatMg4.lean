/- ShN and what follows it, one behind another. -/
import Derived.Test.YtlmpjblmmpddeaaGreatMg3
import Derived.OpenShut
import Derived.SizedLaws
import Derived.SliceStrings
set_option linter.unusedVariables false
set_option linter.unusedSimpArgs false
namespace Go.Sh
open Go.RowKit (Below)
section
variable {P:Program}{E E':Env}{S S':St}
def Cnd (r:Option SV) (x y:Prop):Prop:=match r with | some (.d (.v (.bool b)))=>Br b x y | _=>False
def detOp:Op→Bool
  | .next .. | .lookup .. | .mapUpdate ..=>false
  | _=>true
def detC:Code→Bool
  | .skip=>true
  | .label _=>true
  | .exit _=>true
  | .ret=>true
  | .seq x y=>detC x&&detC y
  | .block _ c=>detC c
  | .cond _ x y=>detC x&&detC y
  | .region _ ops _=>ops.toList.all fun o=>detOp o.op
  | .loop c=>detC c
  | _=>false
def Rounds (f:Env→St→(Exit→Env→St→Prop)→Prop) (Q:Exit→Env→St→Prop):Nat→Env→St→Prop
  | 0,_,_=>False
  | n+1,E,S=>f E S (Then (fun E' S'=>Rounds f Q n E' S') Q)
inductive WeakE:Env→Env→Prop
  | refl (E:Env):WeakE E E
  | as {E E':Env} (k:Nat) (x:D) (h:(E k).bind SV.toD=some x) (r:WeakE (upd E k (.d x)) E'):WeakE E E'
theorem CS.asD {c:Code}{E:Env}{S:St}{Q:Exit→Env→St→Prop} (k:Nat) (x:D) (h:(E k).bind SV.toD=some x) (hk:CS P c (upd E k (.d x)) S Q):CS P c E S Q:=by
  intro m0 w0 G a w H hH hr
  refine hk m0 w0 G a w H hH (hr.reenv hr.defers hr.size fun j s hj=>?_)
  unfold upd at hj
  split at hj
  · rename_i e
    subst e
    cases hj
    cases hE:E j with
    | none=>rw[hE] at h;cases h
    | some y =>
      rw[hE] at h
      exact .d ((hr.env j y hE).toD h)
  · exact hr.env j s hj
theorem WeakE.cs {c:Code}{E E':Env}{S:St}{Q:Exit→Env→St→Prop} (h:WeakE E E'):CS P c E' S Q→CS P c E S Q:=by
  induction h with
  | refl=>exact id
  | as k x h r ih=>exact fun hc=>CS.asD k x h (ih hc)
def VC (P:Program):Code→Env→St→(Exit→Env→St→Prop)→Prop
  | .skip,E,S,Q=>Q .normal E S
  | .label _,E,S,Q=>Q .normal E S
  | .exit id,E,S,Q=>Q (.exit id) E S
  | .ret,E,S,Q=>Q .ret E S
  | .seq x y,E,S,Q=>VC P x E S (Then (fun E' S'=>VC P y E' S' Q) Q)
  | .block id c,E,S,Q=>VC P c E S (InBlock id Q)
  | .cond c x y,E,S,Q=>Cnd (evalO E c) (VC P x E S Q) (VC P y E S Q)
  | .region _ ops false,E,S,Q=>VL (fun _=>true) P ops S.nx 0 ops.toList E (S.adv ops.size) (fun E' S'=>Q .normal E' S')
  | .region _ ops true,E,S,Q=>(∃ sp ol,drawOk P ops sp ol=true∧SepT sp E∧OldT ol S.nx E)∧VL (drawLo ops) P ops S.nx 0 ops.toList E (S.adv ops.size) (fun E' S'=>Q .normal E' S')
  | .loop c,E,S,Q=>(detC c=true→∃ E',WeakE E E'∧∃ n,Rounds (VC P c) Q n E' S)∧(detC c=false→CS P (.loop c) E S Q)
  | c,E,S,Q=>CS P c E S Q
theorem CS.rounds {c:Code}{f:Env→St→(Exit→Env→St→Prop)→Prop} (hf:∀ {E:Env}{S:St}{Q:Exit→Env→St→Prop},f E S Q→CS P c E S Q) {Q:Exit→Env→St→Prop}:∀ {n:Nat}{E:Env}{S:St},Rounds f Q n E S→CS P (.loop c) E S Q:=by
  intro n E S h m0 w0 G a w H hH hr QQ hQ
  refine wp_loop_rounds n ?_
  induction n generalizing E S G a w with
  | zero=>exact h.elim
  | succ n ih =>
    rw[rounds_succ]
    refine hf h m0 w0 G a w H hH hr _ (fun ex G' E' S' a' w' q hn hr' f=>?_)
    cases ex with
    | normal=>exact ih q G' a' w' (fun b hb=>Nat.lt_of_lt_of_le (hH b hb) hn.nx) hr' (fun ex G'' E'' S'' a'' w'' q' hn' hr'' f''=>hQ ex G'' E'' S'' a'' w'' q' (hn.trans hn') hr'' (f.trans f''))
    | _=>exact hQ _ G' E' S' a' w' q hn hr' f
theorem VC.sound:∀ {c:Code}{E:Env}{S:St}{Q:Exit→Env→St→Prop},VC P c E S Q→CS P c E S Q
  | .skip,E,S,Q,h=>CS.skip h
  | .label _,E,S,Q,h=>CS.label h
  | .exit id,E,S,Q,h=>CS.exit h
  | .ret,E,S,Q,h=>CS.ret h
  | .seq x y,E,S,Q,h=>CS.seq ((VC.sound (c:=x) h).mono (fun ex E' S' q=>by
      cases ex with
      | normal=>exact VC.sound (c:=y) q
      | _=>exact q))
  | .block id c,E,S,Q,h=>CS.block (VC.sound (c:=c) h)
  | .cond c x y,E,S,Q,h=>by
    unfold VC Cnd at h
    split at h
    · rename_i b hb
      exact CS.cond hb (fun e=>VC.sound (h.1 e)) (fun e=>VC.sound (h.2 e))
    · exact h.elim
  | .region id ops false,E,S,Q,h=>by
    have:=CS.region (P:=P) (id:=id) (ops:=ops.toList) (Q:=Q) (E:=E) (S:=S) (by
      have h3:=VL.sound (P:=P) (ops:=ops) h
      simpa using h3)
    simpa using this
  | .region id ops true,E,S,Q,h=>by
    obtain⟨⟨sp,ol,h1,h2,h4⟩,h3⟩:=h
    exact CS.draw sp ol h1 h2 h4 h3
  | .loop c,E,S,Q,h=>by
    cases hd:detC c with
    | false=>exact h.2 hd
    | true =>
      obtain⟨E',hw,n,hn⟩:=h.1 hd
      exact hw.cs (CS.rounds (f:=VC P c) (fun h=>VC.sound (c:=c) h) hn)
  | .rangeFunc ..,E,S,Q,h=>h
  | .scope _,E,S,Q,h=>h
  | .goto _,E,S,Q,h=>h
  | .refuse _,E,S,Q,h=>h
theorem evalX.det {id:Nat}{o:Oper}{K:SV→Eff→Prop} (ho:detOp o.op=true) (h:evalX P E S id o K):∃ s e,K s e∧∀ K':SV→Eff→Prop,K' s e→evalX P E S id o K':=by
  unfold evalX at h ⊢
  split at h
  · exact⟨_,_,h,fun K' k=>k⟩
  · obtain⟨h1,h2⟩:=h
    unfold rowXX at h2
    split at h2
    · rename_i c2 hc2
      unfold rowV' at h2
      split at h2
      · rename_i q1 q2
        obtain⟨k1,cs,k2,k3,k4⟩:=h2
        refine⟨_,_,k4,fun K' k=>⟨h1,?_⟩⟩
        unfold rowXX
        rw[hc2]
        simp only[rowV',q1,q2]
        exact⟨k1,cs,k2,k3,k⟩
      · exact h2.elim
    · rename_i c2 hc2
      unfold rowX at h2
      split at h2
      · rename_i q1 q2
        obtain⟨k1,cs,k2,k3,k4⟩:=h2
        refine⟨_,_,k4,fun K' k=>⟨h1,?_⟩⟩
        unfold rowXX
        rw[hc2]
        simp only[rowX,q1,q2]
        exact⟨k1,cs,k2,k3,k⟩
      · rename_i hno
        unfold rowV' at h2
        split at h2
        · rename_i q1 q2
          obtain⟨k1,cs,k2,k3,k4⟩:=h2
          refine⟨_,_,k4,fun K' k=>⟨h1,?_⟩⟩
          unfold rowXX
          rw[hc2]
          simp only
          unfold rowX
          split
          · rename_i z1 z2 z3 z4
            exact (hno _ _ _ z3 z4).elim
          · simp only[rowV',q1,q2]
            exact⟨k1,cs,k2,k3,k⟩
        · exact h2.elim
  · rename_i hop;rw[hop] at ho;cases ho
  · rename_i hop;rw[hop] at ho;cases ho
  · unfold entX at h
    split at h
    · rename_i q1 q2
      unfold entV at h
      split at h
      · rename_i q3
        obtain⟨e,r,c,k1,k2,k3⟩:=h
        exact⟨_,_,k3,fun K' k=>by simp only[entX,q1,q2,entV,q3];exact⟨e,r,c,k1,k2,k⟩⟩
      · exact h.elim
    · exact h.elim
  · unfold putX at h
    split at h
    · rename_i q1 q2 q3
      unfold putV at h
      split at h
      · rename_i q4
        obtain⟨k1,k2,k3⟩:=h
        exact⟨_,_,k3,fun K' k=>by simp only[putX,q1,q2,q3,putV,q4];exact⟨k1,k2,k⟩⟩
      · exact h.elim
    · exact h.elim
  · unfold rangeX at h
    split at h
    · rename_i q1
      obtain⟨k1,k2⟩:=h
      exact⟨_,_,k2,fun K' k=>by simp only[rangeX,q1];exact⟨k1,k⟩⟩
    · exact h.elim
  · rename_i hop;rw[hop] at ho;cases ho
  · unfold entryX at h
    split at h
    · rename_i q1
      unfold entryV at h
      split at h
      · rename_i q2
        obtain⟨j,k1,k2,k3,k4⟩:=h
        exact⟨_,_,k4,fun K' k=>by simp only[entryX,q1,entryV,q2];exact⟨j,k1,k2,k3,k⟩⟩
      · exact h.elim
    · exact h.elim
  · split at h
    · unfold lenX at h
      split at h
      · rename_i q1
        unfold lenV at h
        split at h
        · rename_i q2
          obtain⟨k1,k2⟩:=h
          exact⟨_,_,k2,fun K' k=>by simp only[lenX,q1,lenV,q2];exact⟨k1,k⟩⟩
        · exact h.elim
      · exact h.elim
    · unfold copyX at h
      split at h
      · rename_i q1 q2
        unfold copyV at h
        split at h
        · rename_i q3 q4 q5
          obtain⟨k1,k2,k3,k4,k5⟩:=h
          exact⟨_,_,k5,fun K' k=>by simp only[copyX,q1,q2,copyV,q3,q4,q5];exact⟨k1,k2,k3,k4,k⟩⟩
        · exact h.elim
      · rename_i q1 q2
        unfold copyV at h
        split at h
        · rename_i q3 q4 q5
          obtain⟨k1,k2,k3,k4,k5⟩:=h
          exact⟨_,_,k5,fun K' k=>by simp only[copyX,q1,q2,copyV,q3,q4,q5];exact⟨k1,k2,k3,k4,k⟩⟩
        · exact h.elim
      · exact h.elim
    · exact h.elim
  · exact h.elim
theorem VL.det {lo:Nat→Bool}{ops:Array Oper}{base:Nat}:∀ {l:List Oper}{i:Nat}{E:Env}{S:St}{Q:Env→St→Prop},(l.all fun o=>detOp o.op)=true→VL lo P ops base i l E S Q→∃ E' S',Q E' S'∧Keeps S S'∧∀ Q':Env→St→Prop,Q' E' S'→VL lo P ops base i l E S Q'
  | [],i,E,S,Q,_,h=>⟨E,S,h, .refl _,fun Q' k=>k⟩
  | o::l,i,E,S,Q,hd,h=>by
    simp only[List.all_cons,Bool.and_eq_true] at hd
    obtain⟨hd1,hd2⟩:=hd
    unfold VL at h
    obtain⟨h0,h⟩:=h
    cases hw:wantS ops E o with
    | none=>rw[hw] at h;exact h.elim
    | some c =>
      rw[hw] at h
      obtain⟨ht,hf⟩:=h
      cases c with
      | false =>
        obtain⟨E',S',h1,h2,h3⟩:=VL.det hd2 (hf rfl)
        refine⟨E',S',h1,h2,fun Q' k=>?_⟩
        unfold VL
        rw[hw]
        exact⟨h0,nofun,fun _=>h3 Q' k⟩
      | true =>
        have ht:=ht rfl
        split at ht
        · rename_i g xs hc
          cases ha:argsS E xs with
          | none=>rw[ha] at ht;exact ht.elim
          | some ss =>
            rw[ha] at ht
            have fin:∀ {E1 S1},Keeps S S1→VL lo P ops base (i+1) l E1 S1 Q→(∀ Q':Env→St→Prop,VL lo P ops base (i+1) l E1 S1 Q'→Callv (loAt lo ops base i E) P g ss S (fun r S'=>VL lo P ops base (i+1) l (E.put o.dst r) S' Q')) →
                ∃ E' S',Q E' S'∧Keeps S S'∧∀ Q':Env→St→Prop,Q' E' S'→VL lo P ops base i (o::l) E S Q':=fun hk hv hq=>by
              obtain⟨E',S',h1,h2,h3⟩:=VL.det hd2 hv
              refine⟨E',S',h1,hk.trans h2,fun Q' k=>?_⟩
              unfold VL
              rw[hw,hc]
              refine⟨h0,fun _=>?_,nofun⟩
              simp only
              rw[ha]
              exact hq Q' (h3 Q' k)
            rcases ht with ⟨ds,r0,hds,hp,hk⟩ | ⟨hl,r0,S1,hp,hk⟩ | ⟨hl,r0,fB,m,hp,hk⟩ | ⟨r0,S1,hl,hp,hk⟩
            · exact fin (.refl _) hk fun Q' k=>.inl ⟨ds,r0,hds,hp,k⟩
            · exact fin hp.2.1 hk fun Q' k=>.inr (.inl ⟨hl,r0,S1,hp,k⟩)
            · exact fin (hp.call S rfl rfl rfl rfl rfl fun _ _=>rfl).2.1 hk fun Q' k=>.inr (.inr (.inl ⟨hl,r0,fB,m,hp,k⟩))
            · exact fin hp.2.1 hk fun Q' k=>.inr (.inr (.inr ⟨r0,S1,hl,hp,k⟩))
        · rename_i x name xs hc
          unfold RecK at ht
          split at ht
          · rename_i t y hx
            cases ha:argsS E xs with
            | none=>rw[ha] at ht;exact ht.elim
            | some ss =>
              rw[ha] at ht
              obtain⟨g,ds,r0,hm,hds,hp,hk⟩:=ht
              obtain⟨E',S',h1,h2,h3⟩:=VL.det hd2 hk
              refine⟨E',S',h1,h2,fun Q' k=>?_⟩
              unfold VL
              rw[hw,hc]
              refine⟨h0,fun _=>?_,nofun⟩
              simp only
              rw[hx,ha]
              exact⟨g,ds,r0,hm,hds,hp,h3 Q' k⟩
          · exact ht.elim
        · rename_i x xs hc
          unfold FnK at ht
          cases hx:evalO E x with
          | none=>rw[hx] at ht;exact ht.elim
          | some s =>
            rw[hx] at ht
            simp only[Option.bind_some] at ht
            cases hfn:fnS s with
            | none =>
              rw[hfn] at ht
              have ht:YvK (some s) _:=ht
              unfold YvK at ht
              split at ht
              · rename_i y hy
                cases hy
                cases ha:argsS E xs with
                | none=>have:=ht.2;rw[ha] at this;exact this.elim
                | some ss =>
                  obtain⟨hl,ht⟩:=ht
                  rw[ha] at ht
                  obtain⟨r,S1,hp,hk⟩:=ht
                  obtain⟨E',S',h1,h2,h3⟩:=VL.det hd2 hk
                  refine⟨E',S',h1,hp.1.trans h2,fun Q' k=>?_⟩
                  unfold VL
                  rw[hw,hc]
                  refine⟨h0,fun _=>?_,nofun⟩
                  simp only
                  unfold FnK
                  rw[hx]
                  simp only[Option.bind_some]
                  rw[hfn]
                  simp only
                  unfold YvK
                  exact⟨hl,by rw[ha];exact⟨r,S1,hp,h3 Q' k⟩⟩
              · exact ht.elim
            | some gfc =>
              obtain⟨g,fs,cs⟩:=gfc
              rw[hfn] at ht
              simp only at ht
              cases ha:argsS E xs with
              | none=>rw[ha] at ht;exact ht.elim
              | some ss =>
                rw[ha] at ht
                have fin:∀ {E1 S1},Keeps S S1→VL lo P ops base (i+1) l E1 S1 Q→(∀ Q':Env→St→Prop,VL lo P ops base (i+1) l E1 S1 Q'→Callv ⟨lo ops.size,False,0,0,fun _ _=>False⟩ P g (fs++ss++cs) S (fun r S'=>VL lo P ops base (i+1) l (E.put o.dst r) S' Q')) →
                    ∃ E' S',Q E' S'∧Keeps S S'∧∀ Q':Env→St→Prop,Q' E' S'→VL lo P ops base i (o::l) E S Q':=fun hk hv hq=>by
                  obtain⟨E',S',h1,h2,h3⟩:=VL.det hd2 hv
                  refine⟨E',S',h1,hk.trans h2,fun Q' k=>?_⟩
                  unfold VL
                  rw[hw,hc]
                  refine⟨h0,fun _=>?_,nofun⟩
                  simp only
                  unfold FnK
                  rw[hx]
                  simp only[Option.bind_some]
                  rw[hfn]
                  simp only
                  rw[ha]
                  exact hq Q' (h3 Q' k)
                rcases ht with ⟨ds,r0,hds,hp,hk⟩ | ⟨hl,r0,S1,hp,hk⟩ | ⟨hl,_⟩ | ⟨_,_,hl,_⟩
                · exact fin (.refl _) hk fun Q' k=>.inl ⟨ds,r0,hds,hp,k⟩
                · exact fin hp.2.1 hk fun Q' k=>.inr (.inl ⟨hl,r0,S1,hp,k⟩)
                · exact hl.elim
                · exact hl.elim
        · rename_i hc
          rcases ht with ht | ⟨hl,ht⟩
          · cases he:evalOp P E S (base+i) o with
            | none=>rw[he] at ht;exact ht.elim
            | some se =>
              obtain⟨s,e⟩:=se
              rw[he] at ht
              obtain⟨E',S',h1,h2,h3⟩:=VL.det hd2 ht
              refine⟨E',S',h1,(keeps_app _ _).trans h2,fun Q' k=>?_⟩
              unfold VL
              rw[hw,hc]
              refine⟨h0,fun _=>.inl ?_,nofun⟩
              rw[he]
              exact h3 Q' k
          · obtain⟨s,e,k1,k2⟩:=evalX.det hd1 ht
            obtain⟨E',S',h1,h2,h3⟩:=VL.det hd2 k1
            refine⟨E',S',h1,(keeps_app _ _).trans h2,fun Q' k=>?_⟩
            unfold VL
            rw[hw,hc]
            exact⟨h0,fun _=>.inr ⟨hl,k2 _ (h3 Q' k)⟩,nofun⟩
theorem Rounds.det {f:Env→St→(Exit→Env→St→Prop)→Prop} (hf:∀ {E:Env}{S:St}{Q:Exit→Env→St→Prop},f E S Q→∃ ex E' S',Q ex E' S'∧Keeps S S'∧∀ Q':Exit→Env→St→Prop,Q' ex E' S'→f E S Q') {Q:Exit→Env→St→Prop} :
    ∀ {n:Nat} {E:Env} {S:St},Rounds f Q n E S→∃ ex E' S',Q ex E' S'∧Keeps S S'∧∀ Q':Exit→Env→St→Prop,Q' ex E' S'→Rounds f Q' n E S
  | 0,_,_,h=>h.elim
  | n+1,E,S,h=>by
    obtain⟨ex,E1,S1,h1,h2,h3⟩:=hf h
    cases ex with
    | normal =>
      obtain⟨ex,E',S',k1,k2,k3⟩:=Rounds.det (f:=f) hf (Q:=Q) (n:=n) (E:=E1) (S:=S1) h1
      exact⟨ex,E',S',k1,h2.trans k2,fun Q' k=>h3 _ (k3 Q' k)⟩
    | _=>exact⟨_,E1,S1,h1,h2,fun Q' k=>h3 _ k⟩
theorem VC.det:∀ {c:Code}{E:Env}{S:St}{Q:Exit→Env→St→Prop},detC c=true→VC P c E S Q→∃ ex E' S',Q ex E' S'∧Keeps S S'∧∀ Q':Exit→Env→St→Prop,Q' ex E' S'→VC P c E S Q'
  | .skip,E,S,Q,_,h=>⟨_,_,_,h, .refl _,fun Q' k=>k⟩
  | .label _,E,S,Q,_,h=>⟨_,_,_,h, .refl _,fun Q' k=>k⟩
  | .exit id,E,S,Q,_,h=>⟨_,_,_,h, .refl _,fun Q' k=>k⟩
  | .ret,E,S,Q,_,h=>⟨_,_,_,h, .refl _,fun Q' k=>k⟩
  | .seq x y,E,S,Q,hd,h=>by
    simp only[detC,Bool.and_eq_true] at hd
    obtain⟨ex,E1,S1,h1,h2,h3⟩:=VC.det (c:=x) hd.1 h
    cases ex with
    | normal =>
      obtain⟨ex,E',S',k1,k2,k3⟩:=VC.det (c:=y) hd.2 h1
      exact⟨ex,E',S',k1,h2.trans k2,fun Q' k=>h3 _ (k3 Q' k)⟩
    | _=>exact⟨_,E1,S1,h1,h2,fun Q' k=>h3 _ k⟩
  | .block id c,E,S,Q,hd,h=>by
    obtain⟨ex,E1,S1,h1,h2,h3⟩:=VC.det (c:=c) hd h
    cases ex with
    | normal=>exact⟨.normal,E1,S1,h1,h2,fun Q' k=>h3 _ k⟩
    | ret=>exact⟨.ret,E1,S1,h1,h2,fun Q' k=>h3 _ k⟩
    | exit j =>
      rcases Nat.decEq j id with hj | hj
      · have e:∀ Q:Exit→Env→St→Prop,InBlock id Q (.exit j) E1 S1=Q (.exit j) E1 S1:=fun Q=>if_neg hj
        rw[e] at h1
        exact⟨.exit j,E1,S1,h1,h2,fun Q' k=>h3 _ (by rw[e];exact k)⟩
      · have e:∀ Q:Exit→Env→St→Prop,InBlock id Q (.exit j) E1 S1=Q .normal E1 S1:=fun Q=>if_pos hj
        rw[e] at h1
        exact⟨.normal,E1,S1,h1,h2,fun Q' k=>h3 _ (by rw[e];exact k)⟩
    | _=>exact⟨_,E1,S1,h1,h2,fun Q' k=>h3 _ k⟩
  | .cond c x y,E,S,Q,hd,h=>by
    simp only[detC,Bool.and_eq_true] at hd
    unfold VC Cnd at h
    split at h
    · rename_i b hb
      cases b with
      | true =>
        obtain⟨ex,E',S',k1,k2,k3⟩:=VC.det (c:=x) hd.1 (h.1 rfl)
        exact⟨ex,E',S',k1,k2,fun Q' k=>by unfold VC Cnd;rw[hb];exact⟨fun _=>k3 Q' k,nofun⟩⟩
      | false =>
        obtain⟨ex,E',S',k1,k2,k3⟩:=VC.det (c:=y) hd.2 (h.2 rfl)
        exact⟨ex,E',S',k1,k2,fun Q' k=>by unfold VC Cnd;rw[hb];exact⟨nofun,fun _=>k3 Q' k⟩⟩
    · exact h.elim
  | .region id ops false,E,S,Q,hd,h=>by
    obtain⟨E',S',k1,k2,k3⟩:=VL.det (Q:=fun E' S'=>Q .normal E' S') hd h
    exact⟨.normal,E',S',k1,⟨k2.n,k2.md,k2.gl,by have:=k2.nx;simp only[St.adv] at this;omega⟩,fun Q' k=>k3 (fun E' S'=>Q' .normal E' S') k⟩
  | .region id ops true,E,S,Q,hd,h=>by
    obtain⟨h0,h⟩:=h
    obtain⟨E',S',k1,k2,k3⟩:=VL.det (Q:=fun E' S'=>Q .normal E' S') hd h
    exact⟨.normal,E',S',k1,⟨k2.n,k2.md,k2.gl,by have:=k2.nx;simp only[St.adv] at this;omega⟩,fun Q' k=>⟨h0,k3 (fun E' S'=>Q' .normal E' S') k⟩⟩
  | .loop c,E,S,Q,hd,h=>by
    have hd:detC c=true:=hd
    obtain⟨E1,hw,n,hn⟩:=h.1 hd
    obtain⟨ex,E',S',k1,k2,k3⟩:=Rounds.det (f:=VC P c) (fun h=>VC.det (c:=c) hd h) hn
    exact⟨ex,E',S',k1,k2,fun Q' k=>⟨fun _=>⟨E1,hw,n,k3 Q' k⟩,fun e=>by rw[hd] at e;cases e⟩⟩
  | .rangeFunc ..,E,S,Q,hd,h=>by cases hd
  | .scope _,E,S,Q,hd,h=>by cases hd
  | .goto _,E,S,Q,hd,h=>by cases hd
  | .refuse _,E,S,Q,hd,h=>by cases hd
abbrev Cd:=Inhabited (Code)
abbrev Cd.c (self:Cd):Code:=self.default
abbrev Ar:=Inhabited (Array Oper)
abbrev Ar.a (self:Ar):Array Oper:=self.default
abbrev Ls:=Inhabited (List Oper)
abbrev Ls.l (self:Ls):List Oper:=self.default
abbrev Oc:=Inhabited (Oper)
abbrev Oc.o (self:Oc):Oper:=self.default
abbrev Eh:=Inhabited (Env)
abbrev Eh.e (self:Eh):Env:=self.default
def loOf (dr:Bool) (ops:Array Oper):Nat→Bool:=match dr with | true=>drawLo ops | false=>fun _=>true
def VLt (_:Bool) (dr:Bool) (P:Program) [A:Ar] (base i:Nat) [l:Ls] (E:Env) (S:St) (Q:Env→St→Prop):Prop:=VL (loOf dr A.a) P A.a base i l.l E S Q
def VCt (_:Bool) (P:Program) [c:Cd] (E:Env) (S:St) (Q:Exit→Env→St→Prop):Prop:=VC P c.c E S Q
def LoopT (P:Program) [c:Cd] (E:Env) (S:St) (Q:Exit→Env→St→Prop):Prop:=VC P (.loop c.c) E S Q
theorem LoopT.asD {P:Program}{c:Code}{E:Env}{S:St}{Q:Exit→Env→St→Prop} (k:Nat) (x:D) (h:(E k).bind SV.toD=some x) (hk:@LoopT P ⟨c⟩ (upd E k (.d x)) S Q):@LoopT P ⟨c⟩ E S Q :=
  ⟨fun hd=>by obtain⟨E',hw,r⟩:=hk.1 hd;exact⟨E', .as k x h hw,r⟩,fun hd=>CS.asD k x h (hk.2 hd)⟩
def DrawT (P:Program) [A:Ar] (E:Env) (n:Nat):Prop:=∃ sp ol,drawOk P A.a sp ol=true∧SepT sp E∧OldT ol n E
theorem DrawT.mk {P:Program}{A:Ar}{E:Env}{n:Nat} (h:drawOk P A.a [] []=true):@DrawT P A E n:=⟨[],[],h,trivial,trivial⟩
theorem DrawT.sp {P:Program}{A:Ar}{E:Env}{n:Nat} (sp:Spl) (h:drawOk P A.a sp []=true) (k:SepT sp E):@DrawT P A E n:=⟨sp,[],h,k,trivial⟩
theorem DrawT.ol {P:Program}{A:Ar}{E:Env}{n:Nat} (ol:Old) (h:drawOk P A.a [] ol=true) (k:OldT ol n E):@DrawT P A E n:=⟨[],ol,h,trivial,k⟩
@[simp] theorem OldT_nil {n:Nat}{E:Env}:OldT [] n E=True:=rfl
@[simp] theorem OldT_cons {E:Env} (x:Nat×Nat) (y n:Nat) (l:Old):OldT ((x,y)::l) n E=(below n (refOf (E x.2))∧OldT l n E):=rfl
@[simp] theorem below_some (n b:Nat):below n (some b)=(b<n):=rfl
@[simp] theorem SepT_nil {E:Env}:SepT [] E=True:=rfl
@[simp] theorem SepT_cons {E:Env} (x y:Nat×Nat) (l:Spl):SepT ((x,y)::l) E=(apart (refOf (E x.2)) (refOf (E y.2))∧SepT l E):=rfl
@[simp] theorem refOf_some (b off:Nat):refOf (some (.op b off))=some b:=rfl
@[simp] theorem apart_some (b c:Nat):apart (some b) (some c)=(b≠c):=rfl
def LoudT (dr:Bool) [A:Ar] (base i:Nat) [E:Eh]:Lo:=loAt (loOf dr A.a) A.a base i E.e
def txtLo:Lo:=⟨true,False,0,0,fun _ _=>False⟩
def BrT (b:Bool) (x y:Bool→Prop):Prop:=Br b (x true) (y true)
@[simp] theorem BrT_true (x y:Bool→Prop):BrT true x y=x true:=by simp[BrT,Br]
@[simp] theorem BrT_false (x y:Bool→Prop):BrT false x y=y true:=by simp[BrT,Br]
@[simp] theorem BrT_not (b:Bool) (x y:Bool→Prop):BrT (!b) x y=BrT b y x:=by cases b<;>simp
theorem BrT.mk {b:Bool}{x y:Bool→Prop} (h:b=true→x true) (k:b=false→y true):BrT b x y:=⟨h,k⟩
theorem BrT.dec {p:Prop} [Decidable p] {x y:Bool→Prop} (h:p→x true) (k:¬ p→y true):BrT (decide p) x y:=⟨fun e=>h (of_decide_eq_true e),fun e=>k (of_decide_eq_false e)⟩
theorem BrT.yes {p:Prop} [Decidable p] {x y:Bool→Prop} (hp:p) (h:x true):BrT (decide p) x y:=.dec (fun _=>h) (fun n=>absurd hp n)
theorem BrT.no {p:Prop} [Decidable p] {x y:Bool→Prop} (hp:¬ p) (h:y true):BrT (decide p) x y:=.dec (fun n=>absurd n hp) (fun _=>h)
def CallT (lo:Lo) (P:Program) (g:FuncId) (ss:List SV) (S:St) (K:Bool→SV→St→Prop):Prop:=Callv lo P g ss S (K true)
theorem CallT.p {lo:Lo}{g:FuncId}{ss:List SV}{K:Bool→SV→St→Prop}{ds:List D}{r:D}{gl:Nat→Option D} (h:PCall P gl g ds r) (hg:S.gl=gl) (hd:toDs ss=some ds) (k:K true (.d r) S):CallT lo P g ss S K:=.inl ⟨ds,r,hd,by rw[hg];exact h,k⟩
theorem CallT.l {lo:Lo}{g:FuncId}{ss:List SV}{K:Bool→SV→St→Prop}{r:SV}{S':St} (h:LCall P g ss S r S') (hl:lo.loud=true) (k:K true r S'):CallT lo P g ss S K:=.inr (.inl ⟨hl,r,S',h,k⟩)
theorem CallT.own {A:Ar}{base i:Nat}{Eh:Eh}{g:FuncId}{ss:List SV}{K:Bool→SV→St→Prop}{r:SV}{fB:(Nat→Option (List SV))→(Nat→Option (List SV))}{m:Nat} (l:Old) (hf:freeAt A.a i=true) (hl:oldOf A.a i=l) (ho:OldT l base Eh.e) (h:OwnK P g ss S base (base+A.a.size) r fB m) (k:K true r { S with B:=fB S.B,nx:=m }):CallT (@LoudT true A base i Eh) P g ss S K:=by
  refine .inr (.inr (.inl ⟨⟨?_,?_,?_⟩,r,fB,m,h,k⟩))
  · show drawLo A.a A.a.size=false
    unfold drawLo
    rw[if_neg (Nat.lt_irrefl _),if_pos rfl]
  · show drawLo A.a (A.a.size+1+2*i)=true
    unfold drawLo
    rw[if_neg (by omega),if_neg (by omega),if_pos (by omega),show (A.a.size+1+2*i - (A.a.size+1)) / 2=i by omega]
    exact hf
  · show OldT (oldOf A.a i) base Eh.e
    rw[hl];exact ho
theorem CallT.calm {A:Ar}{base i:Nat}{Eh:Eh}{g:FuncId}{ss:List SV}{K:Bool→SV→St→Prop}{r:SV}{S':St} (l:Old) (hf:calmAt A.a i=true) (hl:oldOf A.a i=l) (h:LCall P g ss S r S') (ho:CalmT l Eh.e S S') (k:K true r S'):CallT (@LoudT true A base i Eh) P g ss S K:=by
  refine .inr (.inr (.inr ⟨r,S',⟨?_,?_,?_⟩,h,k⟩))
  · show drawLo A.a A.a.size=false
    unfold drawLo
    rw[if_neg (Nat.lt_irrefl _),if_pos rfl]
  · show drawLo A.a (A.a.size+1+(2*i+1))=true
    unfold drawLo
    rw[if_neg (by omega),if_neg (by omega),if_neg (by omega),show (A.a.size+1+(2*i+1) - (A.a.size+1)) / 2=i by omega]
    exact hf
  · show CalmT (oldOf A.a i) Eh.e S S'
    rw[hl];exact ho
@[simp] theorem CalmT_nil {E:Env}{S S':St}:CalmT [] E S S'=True:=rfl
@[simp] theorem CalmT_cons {E:Env}{S S':St} (x:Nat×Nat) (y:Nat) (l:Old):CalmT ((x,y)::l) E S S'=(sameB S S' (refOf (E x.2))∧CalmT l E S S'):=rfl
@[simp] theorem sameB_some (S S':St) (b:Nat):sameB S S' (some b)=(S'.B b=S.B b):=rfl
theorem CallT.p0 {lo:Lo}{g:FuncId}{ss:List SV}{K:Bool→SV→St→Prop}{ds:List D}{r:D}{gl:Nat→Option D} (h:PCall P gl g ds r) (hg:S.gl=gl) (hd:toDs ss=some ds) (k:K true (.d r) S):CallT lo P g ss S K:=.p h hg hd k
def InvT (P:Program) (t:TypeId) (y:D) (name:String) (ss:List SV) (S:St) (K:Bool→SV→Prop):Prop:=Invk P t y name ss S (K true)
theorem InvT.p {t:TypeId}{y:D}{name:String}{ss:List SV}{K:Bool→SV→Prop}{g:FuncId}{ds:List D}{r:D}{gl:Nat→Option D} (h:PCall P gl g (y::ds) r) (hg:S.gl=gl) (hm:methOf P t name=some g) (hd:toDs ss=some ds) (k:K true (.d r)):InvT P t y name ss S K:=⟨g,ds,r,hm,hd,by rw[hg];exact h,k⟩
def FnT (r:Option SV) (K:Bool→FuncId→List SV→List SV→Prop) (KY:Nat→Prop):Prop:=FnK r (K true) KY
@[simp] theorem FnT_dfn (g:FuncId) (xs ys:List D) (K:Bool→FuncId→List SV→List SV→Prop) (KY:Nat→Prop):FnT (some (.d (.fn (.func g) xs ys))) K KY=K true g (xs.map .d) (ys.map .d):=(rfl)
@[simp] theorem FnT_yv (y:Nat) (K:Bool→FuncId→List SV→List SV→Prop) (KY:Nat→Prop):FnT (some (.yv y)) K KY=KY y:=(rfl)
def YldT (P:Program) (y:Nat) (ss:List SV) (S:St) (K:Bool→SV→St→Prop):Prop:=∃ r S',YCall P y ss S r S'∧K true r S'
theorem YldT.x {y:Nat}{ss:List SV}{K:Bool→SV→St→Prop}{Q:SV→St→Prop} (h:∃ r S',YCall P y ss S r S'∧Q r S') (k:∀ r S',Q r S'→K true r S'):YldT P y ss S K:=by
  obtain⟨r,S',h1,h2⟩:=h
  exact⟨r,S',h1,k r S' h2⟩
def TxtT (dr:Bool) [A:Ar]:Bool:=loOf dr A.a A.a.size
def TxtL (dr:Bool) [A:Ar]:Lo:=⟨loOf dr A.a A.a.size,False,0,0,fun _ _=>False⟩
@[simp] theorem TxtL_text [A:Ar]:TxtL false=txtLo:=(rfl)
@[simp] theorem TxtT_text [A:Ar]:TxtT false=true:=(rfl)
def HidK (K:Bool→SV→Eff→Prop):SV→Eff→Prop:=K true
@[simp] theorem HidK_app (K:Bool→SV→Eff→Prop) (s:SV) (e:Eff):HidK K s e=K true s e:=(rfl)
def OpT (r:Option (SV×Eff)) (K:Bool→SV→Eff→Prop):Prop:=Op1 r (K true)
@[simp] theorem OpT_some (s:SV) (e:Eff) (K:Bool→SV→Eff→Prop):OpT (some (s,e)) K=K true s e:=(rfl)
@[simp] theorem OpT_only (c:Prop) [Decidable c] (s:SV) (e:Eff) (K:Bool→SV→Eff→Prop):OpT (onlyIf c (s,e)) K=(c∧K true s e):=by
  unfold onlyIf
  by_cases h:c<;>simp[h,OpT,Op1]
def ArgT (r:Option (List SV)) (K:Bool→List SV→Prop):Prop:=ArgK r (K true)
@[simp] theorem ArgT_some (ds:List SV) (K:Bool→List SV→Prop):ArgT (some ds) K=K true ds:=(rfl)
def RecT (r:Option SV) (K:Bool→TypeId→D→Prop):Prop:=RecK r (K true)
@[simp] theorem RecT_some (t:TypeId) (y:D) (K:Bool→TypeId→D→Prop):RecT (some (.d (.ifc t y))) K=K true t y:=(rfl)
def WantT (r:Option Bool) (x y:Bool→Prop):Prop:=Want r (x true) (y true)
@[simp] theorem WantT_some (b:Bool) (x y:Bool→Prop):WantT (some b) x y=BrT b x y:=(rfl)
def CndT (r:Option SV) (x y:Bool→Prop):Prop:=Cnd r (x true) (y true)
@[simp] theorem CndT_some (b:Bool) (x y:Bool→Prop):CndT (some (.d (.v (.bool b)))) x y=BrT b x y:=(rfl)
def ThenT (N:Bool→Env→St→Prop) (Q:Exit→Env→St→Prop):Exit→Env→St→Prop:=Then (N true) Q
@[simp] theorem ThenT_normal (N:Bool→Env→St→Prop) (Q:Exit→Env→St→Prop):ThenT N Q .normal E S=N true E S:=(rfl)
@[simp] theorem ThenT_exit (N:Bool→Env→St→Prop) (Q:Exit→Env→St→Prop) (i:Nat):ThenT N Q (.exit i) E S=Q (.exit i) E S:=(rfl)
@[simp] theorem ThenT_ret (N:Bool→Env→St→Prop) (Q:Exit→Env→St→Prop):ThenT N Q .ret E S=Q .ret E S:=(rfl)
def RegT (Q:Exit→Env→St→Prop):Env→St→Prop:=fun E S=>Q .normal E S
@[simp] theorem RegT_app (Q:Exit→Env→St→Prop):RegT Q E S=Q .normal E S:=(rfl)
@[simp] theorem InBlock_normal (id:Nat) (Q:Exit→Env→St→Prop):InBlock id Q .normal E S=Q .normal E S:=(rfl)
@[simp] theorem InBlock_ret (id:Nat) (Q:Exit→Env→St→Prop):InBlock id Q .ret E S=Q .ret E S:=(rfl)
@[simp] theorem InBlock_exit (id:Nat) (Q:Exit→Env→St→Prop) (i:Nat):InBlock id Q (.exit i) E S=if i=id then Q .normal E S else Q (.exit i) E S:=(rfl)
def StepT (_:Bool) (dr:Bool) (P:Program) [A:Ar] (base i:Nat) [o:Oc] [l:Ls] (E:Env) (S:St) (Q:Env→St→Prop):Option CallK→Prop
  | some (.fn g xs)=>ArgT (argsS E xs) (fun t ss=>CallT (@LoudT dr A base i ⟨E⟩) P g ss S (fun t r S'=>@VLt t dr P A base (i+1) l (E.put o.o.dst r) S' Q))
  | some (.inv x name xs)=>RecT (evalO E x) (fun t ty y=>ArgT (argsS E xs) (fun t ss=>InvT P ty y name ss S (fun t r=>@VLt t dr P A base (i+1) l (E.put o.o.dst r) S Q)))
  | some (.dyn x xs)=>FnT (evalO E x) (fun t g fs cs=>ArgT (argsS E xs) (fun t ss=>CallT (@TxtL dr A) P g (fs++ss++cs) S (fun t r S'=>@VLt t dr P A base (i+1) l (E.put o.o.dst r) S' Q))) (fun y=>@TxtT dr A=true∧ArgT (argsS E xs) (fun t ss=>YldT P y ss S (fun t r S'=>@VLt t dr P A base (i+1) l (E.put o.o.dst r) S' Q)))
  | none=>OpT (evalOp P E S (base+i) o.o) (fun t s e=>@VLt t dr P A base (i+1) l (E.put o.o.dst s) (S.app (base+i) e) Q)∨(@TxtT dr A=true∧evalX P E S (base+i) o.o (HidK (fun t s e=>@VLt t dr P A base (i+1) l (E.put o.o.dst s) (S.app (base+i) e) Q)))
def SeeT (t:Bool) (dr:Bool) (P:Program) [A:Ar] (base i:Nat) [o:Oc] [l:Ls] (E:Env) (S:St) (Q:Env→St→Prop):Prop:=@StepT t dr P A base i o l E S Q (callOf o.o.op)
@[simp] theorem CallT_text {A:Ar}{base i:Nat}{Eh:Eh}{g:FuncId}{ss:List SV}{K:Bool→SV→St→Prop}:CallT (@LoudT false A base i Eh) P g ss S K=CallT txtLo P g ss S K:=by
  unfold CallT Callv
  refine propext ⟨fun h=>?_,fun h=>?_⟩
  · rcases h with h | h | ⟨⟨h,_⟩,_⟩ | ⟨_,_,⟨h,_⟩,_⟩
    · exact .inl h
    · exact .inr (.inl ⟨rfl,h.2⟩)
    · cases h
    · cases h
  · rcases h with h | h | ⟨h,_⟩ | ⟨_,_,h,_⟩
    · exact .inl h
    · exact .inr (.inl ⟨rfl,h.2⟩)
    · exact h.elim
    · exact h.elim
@[simp] theorem VLt_nil {dr:Bool}{A:Ar}{base i:Nat}{Q:Env→St→Prop}:@VLt true dr P A base i ⟨[]⟩ E S Q=Q E S:=(rfl)
@[simp] theorem VLt_cons {dr:Bool}{A:Ar}{base i:Nat}{d:Option Nat}{op:Op}{ty:TypeId}{p:String}{af:Array Edge}{l:List Oper}{Q:Env→St→Prop}:@VLt true dr P A base i ⟨⟨d,op,ty,p,af,none⟩::l⟩ E S Q =
    (dstOk d S.n=true∧@SeeT true dr P A base i ⟨⟨d,op,ty,p,af,none⟩⟩ ⟨l⟩ E S Q):=by
  show VL (loOf dr A.a) P A.a base i (⟨d,op,ty,p,af,none⟩::l) E S Q=_
  rw[VL]
  have:wantS A.a E ⟨d,op,ty,p,af,none⟩=some true:=rfl
  rw[this]
  simp only[Want,Br,true_imp_iff,reduceCtorEq,false_imp_iff,and_true]
  unfold SeeT StepT
  cases callOf op with
  | none=>rfl
  | some k=>cases k<;>rfl
def wantG (want:Bool):Option SV→Option Bool
  | some (.d (.v (.bool b)))=>some (b == want)
  | some (.d (.v (.tuple _)))=>some false
  | _=>none
@[simp] theorem wantG_bool (want b:Bool):wantG want (some (.d (.v (.bool b))))=some (b == want):=(rfl)
@[simp] theorem wantG_undef (want:Bool):wantG want (some (.d (.v undef)))=some false:=(rfl)
def GrdT [A:Ar] (j:Nat):Option Nat:=(A.a[j]?).bind (·.dst)
@[simp] theorem GrdT_mk (l:List Oper) (j:Nat):@GrdT ⟨⟨l⟩⟩ j=(l[j]?).bind (·.dst):=by
  show ((⟨l⟩:Array Oper)[j]?).bind (·.dst)=_
  rw[List.getElem?_toArray]
def wantD (E:Env) (want:Bool):Option Nat→Option Bool
  | some d=>wantG want (evalO E (.tmp d))
  | none=>none
@[simp] theorem wantD_some (E:Env) (want:Bool) (d:Nat):wantD E want (some d)=wantG want (evalO E (.tmp d)):=(rfl)
@[simp] theorem VLt_consG {dr:Bool}{A:Ar}{base i:Nat}{d:Option Nat}{op:Op}{ty:TypeId}{p:String}{af:Array Edge}{l:List Oper}{Q:Env→St→Prop}{j:Nat}{want:Bool}:@VLt true dr P A base i ⟨⟨d,op,ty,p,af,some (j,want)⟩::l⟩ E S Q =
    (dstOk d S.n=true∧WantT (wantD E want (@GrdT A j)) (fun t=>@SeeT t dr P A base i ⟨⟨d,op,ty,p,af,some (j,want)⟩⟩ ⟨l⟩ E S Q) (fun t=>@VLt t dr P A base (i+1) ⟨l⟩ (E.put d (.d (.v undef))) S Q)):=by
  show VL (loOf dr A.a) P A.a base i (⟨d,op,ty,p,af,some (j,want)⟩::l) E S Q=_
  rw[VL]
  have:wantS A.a E ⟨d,op,ty,p,af,some (j,want)⟩=wantD E want (@GrdT A j):=by
    unfold wantS wantD wantG GrdT
    rfl
  rw[this]
  unfold WantT SeeT StepT
  cases callOf op with
  | none=>rfl
  | some k=>cases k<;>rfl
@[simp] theorem SeeT_fn {dr:Bool}{A:Ar}{base i:Nat}{d:Option Nat}{ty:TypeId}{p:String}{af:Array Edge}{gd:Option (Nat×Bool)}{l:List Oper}{Q:Env→St→Prop}{g:FuncId}{xs:Array Operand}{ts:Array TypeId}:@SeeT true dr P A base i ⟨⟨d, .call { callee:=.value (.func g),args:=xs,argTypes:=ts },ty,p,af,gd⟩⟩ ⟨l⟩ E S Q =
    ArgT (argsS E xs.toList) (fun t ss=>CallT (@LoudT dr A base i ⟨E⟩) P g ss S (fun t r S'=>@VLt t dr P A base (i+1) ⟨l⟩ (E.put d r) S' Q)):=rfl
@[simp] theorem SeeT_inv {dr:Bool}{A:Ar}{base i:Nat}{d:Option Nat}{ty:TypeId}{p:String}{af:Array Edge}{gd:Option (Nat×Bool)}{l:List Oper}{Q:Env→St→Prop}{x:Operand}{name:String}{xs:Array Operand}{ts:Array TypeId}:@SeeT true dr P A base i ⟨⟨d, .call { callee:=.invoke x name,args:=xs,argTypes:=ts },ty,p,af,gd⟩⟩ ⟨l⟩ E S Q =
    RecT (evalO E x) (fun t ty y=>ArgT (argsS E xs.toList) (fun t ss=>InvT P ty y name ss S (fun t r=>@VLt t dr P A base (i+1) ⟨l⟩ (E.put d r) S Q))):=rfl
@[simp] theorem SeeT_dyn {dr:Bool}{A:Ar}{base i:Nat}{d:Option Nat}{ty:TypeId}{p:String}{af:Array Edge}{gd:Option (Nat×Bool)}{l:List Oper}{Q:Env→St→Prop}{x:Nat}{xs:Array Operand}{ts:Array TypeId}:@SeeT true dr P A base i ⟨⟨d, .call { callee:=.value (.tmp x),args:=xs,argTypes:=ts },ty,p,af,gd⟩⟩ ⟨l⟩ E S Q =
    FnT (evalO E (.tmp x)) (fun t g fs cs=>ArgT (argsS E xs.toList) (fun t ss=>CallT (@TxtL dr A) P g (fs++ss++cs) S (fun t r S'=>@VLt t dr P A base (i+1) ⟨l⟩ (E.put d r) S' Q))) (fun y=>@TxtT dr A=true∧ArgT (argsS E xs.toList) (fun t ss=>YldT P y ss S (fun t r S'=>@VLt t dr P A base (i+1) ⟨l⟩ (E.put d r) S' Q))):=rfl
def isOp:Op→Bool
  | .call { callee:=.builtin _, .. }=>true
  | .call _=>false
  | _=>true
theorem isOp_callOf {op:Op} (h:isOp op=true):callOf op=none:=by
  unfold callOf
  split
  · cases h
  · cases h
  · cases h
  · rfl
def isTxt:Op→Bool
  | .makeMap .. | .buildSlice .. | .lookup .. | .mapUpdate .. | .mapEntry .. | .entryStore .. | .range .. | .next .. | .entry ..=>true
  | .call { callee:=.builtin .len, .. }=>true
  | .call { callee:=.builtin .copy, .. }=>true
  | _=>false
theorem evalX_no {id:Nat}{o:Oper}{K:SV→Eff→Prop} (h:isTxt o.op=false):evalX P E S id o K=False:=by
  unfold evalX
  split
  all_goals first
    | rfl
    | (rename_i ho;rw[ho] at h;cases h)
    | skip
  rename_i c ho
  obtain⟨callee,args,tys⟩:=c
  rw[ho] at h
  simp only
  split
  · simp[isTxt] at h
  · simp[isTxt] at h
  · rfl
theorem SeeT_x_ {dr:Bool}{A:Ar}{base i:Nat}{o:Oper}{l:List Oper}{Q:Env→St→Prop} (h:isOp o.op=true):@SeeT true dr P A base i ⟨o⟩ ⟨l⟩ E S Q =
    (OpT (evalOp P E S (base+i) o) (fun t s e=>@VLt t dr P A base (i+1) ⟨l⟩ (E.put o.dst s) (S.app (base+i) e) Q)∨(@TxtT dr A=true∧evalX P E S (base+i) o (HidK (fun t s e=>@VLt t dr P A base (i+1) ⟨l⟩ (E.put o.dst s) (S.app (base+i) e) Q)))):=by
  unfold SeeT
  rw[show callOf (Oc.o (self:=⟨o⟩)).op=none from isOp_callOf h]
  rfl
theorem SeeT_op_ {dr:Bool}{A:Ar}{base i:Nat}{o:Oper}{l:List Oper}{Q:Env→St→Prop} (h:(isOp o.op && !isTxt o.op)=true):@SeeT true dr P A base i ⟨o⟩ ⟨l⟩ E S Q =
    OpT (evalOp P E S (base+i) o) (fun t s e=>@VLt t dr P A base (i+1) ⟨l⟩ (E.put o.dst s) (S.app (base+i) e) Q):=by
  simp only[Bool.and_eq_true,Bool.not_eq_true'] at h
  rw[SeeT_x_ h.1,evalX_no h.2]
  simp
@[simp] theorem VCt_skip {Q:Exit→Env→St→Prop}:@VCt true P ⟨.skip⟩ E S Q=Q .normal E S:=(rfl)
@[simp] theorem VCt_exit {id:Nat}{Q:Exit→Env→St→Prop}:@VCt true P ⟨.exit id⟩ E S Q=Q (.exit id) E S:=(rfl)
@[simp] theorem VCt_ret {Q:Exit→Env→St→Prop}:@VCt true P ⟨.ret⟩ E S Q=Q .ret E S:=(rfl)
@[simp] theorem VCt_seq {x y:Code}{Q:Exit→Env→St→Prop}:@VCt true P ⟨.seq x y⟩ E S Q = @VCt true P ⟨x⟩ E S (ThenT (fun t E' S'=>@VCt t P ⟨y⟩ E' S' Q) Q):=(rfl)
@[simp] theorem VCt_block {id:Nat}{c:Code}{Q:Exit→Env→St→Prop}:@VCt true P ⟨.block id c⟩ E S Q = @VCt true P ⟨c⟩ E S (InBlock id Q):=(rfl)
@[simp] theorem VCt_cond {c:Operand}{x y:Code}{Q:Exit→Env→St→Prop}:@VCt true P ⟨.cond c x y⟩ E S Q=CndT (evalO E c) (fun t=>@VCt t P ⟨x⟩ E S Q) (fun t=>@VCt t P ⟨y⟩ E S Q):=(rfl)
@[simp] theorem VCt_region {id:Nat}{l:List Oper}{Q:Exit→Env→St→Prop}:@VCt true P ⟨.region id ⟨l⟩ false⟩ E S Q = @VLt true false P ⟨⟨l⟩⟩ S.nx 0 ⟨l⟩ E (S.adv l.length) (RegT Q):=(rfl)
@[simp] theorem VCt_draw {id:Nat}{l:List Oper}{Q:Exit→Env→St→Prop}:@VCt true P ⟨.region id ⟨l⟩ true⟩ E S Q=(@DrawT P ⟨⟨l⟩⟩ E S.nx∧@VLt true true P ⟨⟨l⟩⟩ S.nx 0 ⟨l⟩ E (S.adv l.length) (RegT Q)):=(rfl)
@[simp] theorem VCt_loop {c:Code}{Q:Exit→Env→St→Prop}:@VCt true P ⟨.loop c⟩ E S Q = @LoopT P ⟨c⟩ E S Q:=(rfl)
theorem CS.of {c:Code}{Q:Exit→Env→St→Prop} (h:@VCt true P ⟨c⟩ E S Q):CS P c E S Q:=VC.sound h
theorem LoopT.round {c:Code}{Q:Exit→Env→St→Prop} (I:Env→St→Prop) (μ:Env→St→Nat) (h0:I E S)
    (round:∀ E1 S1,Keeps S S1→I E1 S1→@VCt true P ⟨c⟩ E1 S1 (ThenT (fun _ E' S'=>I E' S'∧μ E' S'<μ E1 S1) Q)):@LoopT P ⟨c⟩ E S Q :=
  ⟨fun hd=>by
    have key:∀ (m:Nat) (E1:Env) (S1:St),μ E1 S1<m→Keeps S S1→I E1 S1→∃ n,Rounds (VC P c) Q n E1 S1:=by
      intro m
      induction m with
      | zero=>intro E1 S1 h;omega
      | succ m ih =>
        intro E1 S1 hm hk hI
        obtain⟨ex,E',S',h1,h2,h3⟩:=VC.det hd (round E1 S1 hk hI)
        cases ex with
        | normal =>
          obtain⟨k1,k2⟩:I E' S'∧μ E' S'<μ E1 S1:=h1
          obtain⟨n,hn⟩:=ih E' S' (by omega) (hk.trans h2) k1
          exact⟨n+1,h3 _ hn⟩
        | _=>exact⟨1,h3 _ h1⟩
    exact⟨E, .refl E,key _ E S (Nat.lt_succ_self _) (.refl _) h0⟩,
  fun _=>CS.loop I μ h0 (fun E1 S1 hk hI=>CS.of (round E1 S1 hk hI))⟩
def RndT (P:Program) (n:Nat) [c:Cd] (E:Env) (S:St) (Q:Exit→Env→St→Prop):Prop:=Rounds (VC P c.c) Q n E S
theorem RndT_succ {n:Nat}{c:Code}{Q:Exit→Env→St→Prop}:@RndT P (n+1) ⟨c⟩ E S Q = @VCt true P ⟨c⟩ E S (ThenT (fun _ E' S'=>@RndT P n ⟨c⟩ E' S' Q) Q):=(rfl)
theorem LoopT.rounds {c:Code}{Q:Exit→Env→St→Prop} (n:Nat) (h:@RndT P n ⟨c⟩ E S Q):@LoopT P ⟨c⟩ E S Q:=⟨fun _=>⟨E, .refl E,n,h⟩,fun _=>CS.rounds (f:=VC P c) (fun h=>VC.sound h) h⟩
def Fin (P:Program) (rs:List ResultVar) (r:D):Exit→Env→St→Prop:=fun ex E S=>(ex=.normal∨ex=.ret)∧∃ s,resS P E S rs=some s∧frz S.B 16 s=some r
@[simp] theorem Fin_ret {rs:List ResultVar}{r:D}:Fin P rs r .ret E S=((resS P E S rs).bind (frz S.B 16)=some r):=by
  simp only[Fin,reduceCtorEq,or_true,true_and,Option.bind_eq_some_iff]
theorem PCall.by_ {gl : Nat → Option D} {md : List Nat} {f : FuncId} {fn : Func} {c : Code} {args : List D} {r : D} (hf : P.funcs[f]? = some fn) (hb : fn.body = some c) (hname : (fn.name == "runtime.NumGoroutine") = false) {n : Nat} (hn : fn.ntmps = n) (hle : args.length ≤ n) (hfew : n ≤ globalsAt) {rs : List ResultVar} (hrs : fn.results.toList = rs)
    (h:@VCt true P ⟨c⟩ (startE gl (args.map .d)) (startS gl md n) (Fin P rs r)):PCall P gl f args r:=PCall.of (md:=md) hf hb hname hn hle hfew (by rw[hrs];exact VC.sound h)
def FinL (P:Program) (rs:List ResultVar) (r:SV) (S':St):Exit→Env→St→Prop:=fun ex E S=>(ex=.normal∨ex=.ret)∧resS P E S rs=some r∧Less S' S
theorem LCall.by_ {md : List Nat} {f : FuncId} {fn : Func} {c : Code} {ss : List SV} {r : SV} (hk : Keeps S S') (hf : P.funcs[f]? = some fn) (hb : fn.body = some c) (hname : (fn.name == "runtime.NumGoroutine") = false) {n : Nat} (hn : fn.ntmps = n) (hle : ss.length ≤ n) (hfew : n ≤ globalsAt) {rs : List ResultVar} (hrs : fn.results.toList = rs)
    (h:@VCt true P ⟨c⟩ (startE S.gl ss) { S with n:=n,md:=md } (FinL P rs r S')):LCall P f ss S r S':=LCall.of (md:=md) hf hb hname hn hle hfew hk (by rw[hrs];exact VC.sound h)
def FinX (P:Program) (rs:List ResultVar) (S:St) (R:SV→St→Prop):Exit→Env→St→Prop:=fun ex E S1=>(ex=.normal∨ex=.ret)∧∃ r,resS P E S1 rs=some r∧R r { S1 with n:=S.n,md:=S.md }
@[simp] theorem FinX_ret {rs:List ResultVar}{R:SV→St→Prop}{S0:St}:FinX P rs S0 R .ret E S=(∃ r,resS P E S rs=some r∧R r { S with n:=S0.n,md:=S0.md }):=by
  simp only[FinX,reduceCtorEq,or_true,true_and]
theorem LCall.ex_ {md : List Nat} {f : FuncId} {fn : Func} {c : Code} {ss : List SV} {R : SV → St → Prop} (hf : P.funcs[f]? = some fn) (hb : fn.body = some c) (hd : detC c = true) (hname : (fn.name == "runtime.NumGoroutine") = false) {n : Nat} (hn : fn.ntmps = n) (hle : ss.length ≤ n) (hfew : n ≤ globalsAt) {rs : List ResultVar} (hrs : fn.results.toList = rs)
    (h:@VCt true P ⟨c⟩ (startE S.gl ss) { S with n:=n,md:=md } (FinX P rs S R)):∃ r S',LCall P f ss S r S'∧R r S':=by
  obtain⟨ex,E',S',⟨h1,r,h2,h3⟩,hk,h4⟩:=VC.det hd h
  refine⟨r,{ S' with n:=S.n,md:=S.md },?_,h3⟩
  have k1:S'.gl=S.gl:=hk.gl
  have k2:S.nx≤S'.nx:=hk.nx
  refine LCall.of (md:=md) hf hb hname hn hle hfew ⟨rfl,rfl,k1,k2⟩ ?_
  rw[hrs]
  exact VC.sound (h4 _ ⟨h1,h2,⟨fun _ _ h=>h,fun _ _ h=>h,Nat.le_refl _⟩⟩)
mutual
def SV.lt (n:Nat):SV→Bool
  | .d _=>true
  | .fl _ _=>true
  | .tp i _ _ _=>decide (i<n)
  | .op b _=>decide (b<n)
  | .os b _ _=>decide (b<n)
  | .ls cs _=>ltS n cs
  | .ag cs=>ltS n cs
  | .tu cs=>ltS n cs
  | .fc _ x=>SV.lt n x
  | .fn _ xs ys=>ltS n xs&&ltS n ys
  | .mv b=>decide (b<n)
  | .iv b=>decide (b<n)
  | .sk b _ _=>decide (b<n)
  | .mc _ vs=>ltS n vs
  | .ic _ _ _=>true
  | .yv b=>decide (b<n)
  | .lp _ _ ss=>ltS n ss
def ltS (n:Nat):List SV→Bool
  | []=>true
  | s::r=>SV.lt n s&&ltS n r
end
theorem ltS_get {n:Nat}:∀ {cs:List SV},ltS n cs=true↔∀ j (h:j<cs.length),SV.lt n cs[j]=true
  | []=>by simp[ltS]
  | s::r=>by
    simp only[ltS,Bool.and_eq_true,ltS_get (cs:=r)]
    constructor
    · rintro ⟨h1,h2⟩ j hj
      cases j with
      | zero=>exact h1
      | succ j=>exact h2 j (by simpa using hj)
    · intro h
      exact⟨h 0 (by simp),fun j hj=>h (j+1) (by simpa using hj)⟩
def Gh.cutAt (G:Gh) (n:Nat):Gh:={ G with box:=fun b=>if b<n then G.box b else none,tip:=fun i=>if i<n then G.tip i else none,obj:=fun b=>if b<n then G.obj b else none }
theorem VR.lt {G:Gh}{w:World}{n:Nat} (hb:∀ b,n≤b→G.box b=none) (ht:∀ b,n≤b→G.tip b=none) (ho:∀ b,n≤b→G.obj b=none) {s:SV}{u:Value} (h:VR G w s u):SV.lt n s=true:=by
  induction h with
  | d h=>rfl
  | fl h hc=>rfl
  | tp h ht' hn he =>
    rename_i i q cs n' B o c B' v k cap
    rcases Nat.lt_or_ge i n with h1 | h1
    · simp[SV.lt,h1]
    · rw[ht i h1] at ht';cases ht'
  | op h =>
    rename_i b off B
    rcases Nat.lt_or_ge b n with h1 | h1
    · simp[SV.lt,h1]
    · rw[hb b h1] at h;cases h
  | os h hn =>
    rename_i b off n' c B
    rcases Nat.lt_or_ge b n with h1 | h1
    · simp[SV.lt,h1]
    · rw[hb b h1] at h;cases h
  | ls us hn hc hk hv ih=>simp only[SV.lt];exact ltS_get.2 fun j hj=>ih j hj
  | ag hl hk hv ih=>simp only[SV.lt];exact ltS_get.2 fun j hj=>ih j hj (by omega)
  | tu hl hv ih=>simp only[SV.lt];exact ltS_get.2 fun j hj=>ih j hj (by omega)
  | fc h ih=>exact ih
  | fn hl hm hv hu ih1 ih2 =>
    simp only[SV.lt,Bool.and_eq_true]
    exact⟨ltS_get.2 fun j hj=>ih1 j hj (by omega),ltS_get.2 fun j hj=>ih2 j hj (by omega)⟩
  | mv h =>
    rename_i b B
    rcases Nat.lt_or_ge b n with h1 | h1
    · simp[SV.lt,h1]
    · rw[ho b h1] at h;cases h
  | iv h =>
    rename_i b B
    rcases Nat.lt_or_ge b n with h1 | h1
    · simp[SV.lt,h1]
    · rw[ho b h1] at h;cases h
  | yv h =>
    rename_i b B
    rcases Nat.lt_or_ge b n with h1 | h1
    · simp[SV.lt,h1]
    · rw[ho b h1] at h;cases h
  | sk h hn hb' hr =>
    rename_i b n' sz c B us T fr
    rcases Nat.lt_or_ge b n with h1 | h1
    · simp[SV.lt,h1]
    · rw[hb b h1] at h;cases h
theorem VR.cutAt {G:Gh}{w:World}{n:Nat}{s:SV}{u:Value} (h:VR G w s u):SV.lt n s=true→VR (G.cutAt n) w s u:=by
  induction h with
  | d h=>exact fun _=>.d h
  | fl h hc=>exact fun _=>.fl h hc
  | tp h ht hn he =>
    intro hl
    simp only[SV.lt,decide_eq_true_eq] at hl
    exact .tp h (by simp only[Gh.cutAt,if_pos hl];exact ht) hn he
  | op h =>
    intro hl
    simp only[SV.lt,decide_eq_true_eq] at hl
    exact .op (by simp only[Gh.cutAt,if_pos hl];exact h)
  | os h hn =>
    intro hl
    simp only[SV.lt,decide_eq_true_eq] at hl
    exact .os (by simp only[Gh.cutAt,if_pos hl];exact h) hn
  | ls us hn hc hk hv ih=>exact fun h=>.ls us hn hc hk fun j hj=>ih j hj (ltS_get.1 (by simpa only [SV.lt] using h) j hj)
  | ag hl hk hv ih=>exact fun h=>.ag hl hk fun j hj hj'=>ih j hj hj' (ltS_get.1 (by simpa only [SV.lt] using h) j hj)
  | tu hl hv ih=>exact fun h=>.tu hl fun j hj hj'=>ih j hj hj' (ltS_get.1 (by simpa only [SV.lt] using h) j hj)
  | fc h ih=>exact fun h=>.fc (ih h)
  | fn hl hm hv hu ih1 ih2 =>
    intro h
    simp only[SV.lt,Bool.and_eq_true] at h
    exact .fn hl hm (fun j hj hj'=>ih1 j hj hj' (ltS_get.1 h.1 j hj)) (fun j hj hj'=>ih2 j hj hj' (ltS_get.1 h.2 j hj))
  | mv h =>
    intro hl
    simp only[SV.lt,decide_eq_true_eq] at hl
    exact .mv (by simp only[Gh.cutAt,if_pos hl];exact h)
  | iv h =>
    intro hl
    simp only[SV.lt,decide_eq_true_eq] at hl
    exact .iv (by simp only[Gh.cutAt,if_pos hl];exact h)
  | yv h =>
    intro hl
    simp only[SV.lt,decide_eq_true_eq] at hl
    exact .yv (by simp only[Gh.cutAt,if_pos hl];exact h)
  | sk h hn hb hr =>
    intro hl
    simp only[SV.lt,decide_eq_true_eq] at hl
    exact .sk (by simp only[Gh.cutAt,if_pos hl];exact h) hn hb hr
theorem ObjR.cutAt {G:Gh}{w:World}{n B:Nat}{cs:List SV} (h:ObjR G w cs B) (hl:ltS n cs=true):ObjR (G.cutAt n) w cs B:=by
  cases h with
  | mp es hb h1 h2 hborn hk hv =>
    simp only[ltS,SV.lt,Bool.and_true] at hl
    exact .mp es hb h1 h2 hborn hk fun j hj hj'=>(hv j hj hj').cutAt (ltS_get.1 hl j hj)
  | it hb hm=>exact .it hb hm
  | lp hb hs =>
    simp only[ltS,SV.lt,Bool.and_true] at hl
    exact .lp hb fun j hj=>(hs j hj).cutAt (ltS_get.1 hl j hj)
  | df hb=>exact .df hb
theorem ObjR.lt {G:Gh}{w:World}{n B:Nat}{cs:List SV} (hb:∀ b,n≤b→G.box b=none) (ht:∀ b,n≤b→G.tip b=none) (ho:∀ b,n≤b→G.obj b=none) (h:ObjR G w cs B):ltS n cs=true:=by
  cases h with
  | mp es hb' h1 h2 hborn hk hv =>
    simp only[ltS,SV.lt,Bool.and_true]
    exact ltS_get.2 fun j hj=>(hv j hj (by omega)).lt hb ht ho
  | it hb' hm=>simp[ltS,SV.lt]
  | lp hb' hs =>
    simp only[ltS,SV.lt,Bool.and_true]
    exact ltS_get.2 fun j hj=>(hs j hj).lt hb ht ho
  | df hb'=>simp[ltS,SV.lt]
theorem ObjR.single {G:Gh}{w:World}{B:Nat}{cs l:List SV} (h:ObjR G w (cs++l) B) (hne:cs≠[]):l=[]:=by
  have:(cs++l).length=1:=by
    generalize cs++l=c at h
    cases h<;>rfl
  have h0:0<cs.length:=List.length_pos_iff.2 hne
  simp only[List.length_append] at this
  exact List.length_eq_zero_iff.1 (by omega)
structure Elder (S S' S1:St):Prop where
  n:S'.n=S.n
  md:S'.md=S.md
  gl:S'.gl=S.gl
  nx:S.nx≤S'.nx
  B:∀ b cs,S'.B b=some cs→b<S'.nx∧(∃ l,S1.B b=some (cs++l))∧(ltS S'.nx cs=true∨S.B b=some cs)
  T:∀ i p,S'.T i=some p→i<S'.nx∧S1.T i=some p
  E:∀ b,S'.B b=some []→S1.B b=some []
def ResOf (o:Option SV) (r:SV):Prop:=o=some r∨∃ s x,o=some s∧s.toD=some x∧r=.d x
theorem ResOf.get {o:Option SV}{r:SV} (h:ResOf o r):∃ s,o=some s∧∀ (G:Gh) (w:World) (u:Value),VR G w s u→VR G w r u:=by
  rcases h with h | ⟨s,x,h,hx,rfl⟩
  · exact⟨r,h,fun _ _ _ k=>k⟩
  · exact⟨s,h,fun _ _ _ k=>.d (k.toD hx)⟩
theorem LCall.elder {f : FuncId} {fn : Func} {c : Code} {ss : List SV} {r : SV} {md : List Nat} (hf : P.funcs[f]? = some fn) (hb : fn.body = some c) (hname : (fn.name == "runtime.NumGoroutine") = false) {n : Nat} (hn : fn.ntmps = n) (hle : ss.length ≤ n) (hfew : n ≤ globalsAt)
    (hk:Keeps S S') (hr0:SV.lt S'.nx r=true)
    (h:CS P c (startE S.gl ss) { S with n:=n,md:=md } (fun ex E1 S1=>(ex=.normal∨ex=.ret)∧ResOf (resS P E1 S1 fn.results.toList) r∧Elder S S' S1)):LCall P f ss S r S':=by
  refine⟨⟨fn,hf,hname,by rw[hb];rfl⟩,hk,fun m0 w0 G E F a w vals hr hF hl hv=>calls_of_wp hf hb ?_⟩
  have hsz:(vals.toArray++Array.replicate (fn.ntmps - vals.toArray.size) undef).size=n:=by simp;omega
  have hstart:=start_slots (gl:=S.gl) (G:=G) (w:=w) (ss:=ss) (vals:=vals) (n:=n) (ntmps:=n) hl hle hv hr.glob (Array.replicate (fn.ntmps - vals.toArray.size) undef)
  refine h m0 w0 G { tmps:=vals.toArray++Array.replicate (fn.ntmps - vals.toArray.size) undef,defers:=[] } w (fun b=>F b∧b<S.nx) (fun _ hb=>hb.2)
    ⟨hstart,hsz,hfew,hr.box,hr.inj,hr.tip,hr.tinj,hr.tlt,hr.tbox,fun b hb=>hr.fresh b (hb.elim (hF b) (fun h=>h.1)),hr.new,hr.low,hr.below,rfl,hr.glob,hr.more.keep (Fut.refl _ _) (.refl _) (fun _ _ _ h _=>h) rfl (fun _ _ _=>rfl) rfl (fun b hb=>hb.elim (hF b) (fun h=>h.1)) rfl⟩ _ ?_
  rintro ex G' E' S1 a' w' ⟨hex,hs,he⟩ hn' hr' f
  obtain⟨s0,hs,hs0⟩:=hs.get
  obtain⟨u,hu,hv0⟩:=resS_ok hr' hs
  have hv':=hs0 _ _ _ hv0
  have hnx:S.nx≤S1.nx:=hn'.nx
  have hle':S.nx≤S'.nx:=hk.nx
  have hbox:∀ b,S'.nx≤b→G.box b=none:=fun b hb=>(hr.fresh b (hF b (Nat.le_trans hle' hb))).1
  have htip:∀ b,S'.nx≤b→G.tip b=none:=fun b hb=>(hr.fresh b (hF b (Nat.le_trans hle' hb))).2
  have hobj:∀ b,S'.nx≤b→G.obj b=none:=fun b hb=>hr.more.ofresh b (hF b (Nat.le_trans hle' hb))
  have fc:Fut G w (G'.cutAt S'.nx) w':=by
    refine⟨fun b B hb=>?_,fun i B v k cap hi=>?_,f.mark,f.cell,fun b B hb=>?_,f.row,f.map⟩
    · have hlt:b<S'.nx:=by
        rcases Nat.lt_or_ge b S'.nx with h1 | h1
        · exact h1
        · rw[hbox b h1] at hb;cases hb
      simp only[Gh.cutAt,if_pos hlt];exact f.box b B hb
    · have hlt:i<S'.nx:=by
        rcases Nat.lt_or_ge i S'.nx with h1 | h1
        · exact h1
        · rw[htip i h1] at hi;cases hi
      simp only[Gh.cutAt,if_pos hlt];exact f.tip i B v k cap hi
    · have hlt:b<S'.nx:=by
        rcases Nat.lt_or_ge b S'.nx with h1 | h1
        · exact h1
        · rw[hobj b h1] at hb;cases hb
      simp only[Gh.cutAt,if_pos hlt];exact f.obj b B hb
  have cutT:∀ {i p},(G'.cutAt S'.nx).tip i=some p→G'.tip i=some p:=fun {i p} h=>by
    simp only[Gh.cutAt] at h;split at h
    · exact h
    · cases h
  have cutB:∀ {b p},(G'.cutAt S'.nx).box b=some p→G'.box b=some p:=fun {b p} h=>by
    simp only[Gh.cutAt] at h;split at h
    · exact h
    · cases h
  have cutO:∀ {b p},(G'.cutAt S'.nx).obj b=some p→G'.obj b=some p:=fun {b p} h=>by
    simp only[Gh.cutAt] at h;split at h
    · exact h
    · cases h
  have ne:∀ b,S'.B b≠none→S1.B b≠none:=fun b hb e=>by
    obtain⟨cs,hcs⟩:=Option.ne_none_iff_exists'.1 hb
    obtain⟨l,hl⟩:=(he.B b cs hcs).2.1
    rw[hl] at e;cases e
  have fin:a'.defers=[]∧∃ v,(results fn a'.tmps).run P w'=.ok v w'∧(∃ u G'',Ending.returned v=Ending.returned u∧VR G'' w' r u∧Rel m0 w0 G'' E S' (fun b=>F b∧¬ (S.nx≤b∧b<S'.nx)) a w'∧Fut G w G'' w'):=by
    refine⟨hr'.defers,u,hu,u,G'.cutAt S'.nx,rfl,hv'.cutAt hr0,⟨fun j s hj=>(hr.env j s hj).fut fc,by rw[hk.n];exact hr.size,by rw[hk.n];exact hr.few,fun b cs hb ho=>?_,fun b b' B hb hb' g g'=>hr'.inj b b' B (ne b hb) (ne b' hb') (cutB g) (cutB g'),
      fun i k sz hi=>?_,fun i i' B v k c v' k' c' g g'=>hr'.tinj i i' B v k c v' k' c' (cutT g) (cutT g'),fun i B v k c g=>hr'.tlt i B v k c (cutT g),fun i b B v k c hi hb g=>hr'.tbox i b B v k c (cutT hi) (ne b hb) (cutB g),fun b hb=>?_,hr'.new,hr'.low,hr'.below,hr.defers,by rw[hk.gl];exact fun g x hg=>hr'.glob g x (by rw[hn'.gl];exact hg),⟨fun b cs B hb ho=>?_,fun b b' B hb hb' g g'=>hr'.more.oinj b b' B (ne b hb) (ne b' hb') (cutO g) (cutO g'),fun b hb=>?_,fun hg=>hr'.more.clean (by rw[hn'.gl];rw[hk.gl] at hg;exact hg)⟩⟩,fc⟩
    · obtain⟨hlt,⟨l,h1⟩,h2⟩:=he.B b cs hb
      have ho':G'.obj b=none:=by simpa only [Gh.cutAt,if_pos hlt] using ho
      obtain⟨B,us,T,g1,g2,g3,g4,g5,gu0,g6⟩:=hr'.box b _ h1 ho'
      have g6:∀ j (h:j<cs.length) (h':j<us.size),(cs[j]).cell=true∧VR G' w' cs[j] us[j]:=fun j h h'=>by
        have:=g6 j (by simp;omega) h'
        rwa [List.getElem_append_left h] at this
      refine⟨B,us,T,by simp only[Gh.cutAt,if_pos hlt];exact g1,g2,by simp at g3;omega,g4,g5,gu0,fun j hj hj'=>⟨(g6 j hj hj').1,(g6 j hj hj').2.cutAt ?_⟩⟩
      rcases h2 with h2 | h2
      · exact ltS_get.1 h2 j hj
      · have ho0:G.obj b=none:=by
          cases hx:G.obj b with
          | none=>rfl
          | some X=>rw[f.obj b X hx] at ho';cases ho'
        obtain⟨B0,us0,T0,k1,k2,k3,k4,k5,ku0,k6⟩:=hr.box b cs h2 ho0
        exact (k6 j hj (by omega)).2.lt hbox htip hobj
    · obtain⟨hlt,h1⟩:=he.T i _ hi
      obtain⟨B,v,us,T,cap,fr,g1,g2⟩:=hr'.tip i k sz h1
      exact⟨B,v,us,T,cap,fr,by simp only[Gh.cutAt,if_pos hlt];exact g1,g2⟩
    · rcases Nat.lt_or_ge b S.nx with h1 | h1
      · have h2:b<S'.nx:=by omega
        simp only[Gh.cutAt,if_pos h2];exact hr'.fresh b (.inr ⟨hb.1,h1⟩)
      · have:¬ b<S'.nx:=by have:=hb.2;omega
        simp only[Gh.cutAt,if_neg this,and_self]
    · obtain⟨hlt,⟨l,h1⟩,h2⟩:=he.B b cs hb
      have ho':=cutO ho
      obtain⟨m1,m2,m3,m4⟩:=hr'.more.obj b _ B h1 ho'
      have hcs:cs≠[]:=fun e=>by
        subst e
        have:=he.E b hb
        obtain⟨_,_,_,m5⟩:=hr'.more.obj b _ B this ho'
        cases m5
      have hl:=m4.single hcs
      subst hl
      rw[List.append_nil] at m4
      refine⟨by simp only[Gh.cutAt,if_pos hlt];exact m1,m2,m3,m4.cutAt ?_⟩
      rcases h2 with h2 | h2
      · exact h2
      · cases hx:G.obj b with
        | none =>
          obtain⟨B0,us0,T0,k1,k2,k3,k4,k5,ku0,k6⟩:=hr.box b cs h2 hx
          exfalso
          cases m4 with
          | mp es _ _ _ _ _ _=>have:=(k6 0 (by simp) (by simp at k3;omega)).2;cases this
          | it _ _=>have:=(k6 0 (by simp) (by simp at k3;omega)).2;cases this
          | lp _=>have:=(k6 0 (by simp) (by simp at k3;omega)).2;cases this
          | df _ =>
            obtain⟨z,hz⟩:∃ z,VR G w (.fc 0 (.ic [] [] [])) z:=⟨_,(k6 0 (by simp) (by simp at k3;omega)).2⟩
            cases hz with
            | fc h=>cases h
        | some X =>
          obtain⟨_,_,_,k4⟩:=hr.more.obj b cs X h2 hx
          exact k4.lt hbox htip hobj
    · rcases Nat.lt_or_ge b S.nx with h1 | h1
      · have h2:b<S'.nx:=by omega
        simp only[Gh.cutAt,if_pos h2];exact hr'.more.ofresh b (.inr ⟨hb.1,h1⟩)
      · have:¬ b<S'.nx:=by have:=hb.2;omega
        simp only[Gh.cutAt,if_neg this]
  rcases hex with rfl | rfl
  · exact fin
  · exact fin
def FinE (P:Program) (rs:List ResultVar) (r:SV) (S S':St):Exit→Env→St→Prop:=fun ex E S1=>(ex=.normal∨ex=.ret)∧resS P E S1 rs=some r∧Elder S S' S1
@[simp] theorem FinE_ret {rs:List ResultVar}{r:SV}{S0:St}:FinE P rs r S0 S' .ret E S=(resS P E S rs=some r∧Elder S0 S' S):=by
  simp only[FinE,reduceCtorEq,or_true,true_and]
@[simp] theorem FinE_normal {rs:List ResultVar}{r:SV}{S0:St}:FinE P rs r S0 S' .normal E S=(resS P E S rs=some r∧Elder S0 S' S):=by
  simp only[FinE,or_false,reduceCtorEq,true_and]
theorem LCall.byE {md : List Nat} {f : FuncId} {fn : Func} {c : Code} {ss : List SV} {r : SV} (hk : Keeps S S') (hr0 : SV.lt S'.nx r = true) (hf : P.funcs[f]? = some fn) (hb : fn.body = some c) (hname : (fn.name == "runtime.NumGoroutine") = false) {n : Nat} (hn : fn.ntmps = n) (hle : ss.length ≤ n) (hfew : n ≤ globalsAt) {rs : List ResultVar} (hrs : fn.results.toList = rs)
    (h:@VCt true P ⟨c⟩ (startE S.gl ss) { S with n:=n,md:=md } (FinE P rs r S S')):LCall P f ss S r S':=LCall.elder (md:=md) hf hb hname hn hle hfew hk hr0 (by rw[hrs];exact (VC.sound h).mono fun _ _ _ ⟨h1,h2,h3⟩=>⟨h1, .inl h2,h3⟩)
def FinD (P:Program) (rs:List ResultVar) (r:D) (S S':St):Exit→Env→St→Prop:=fun ex E S1=>(ex=.normal∨ex=.ret)∧(∃ s,resS P E S1 rs=some s∧s.toD=some r)∧Elder S S' S1
@[simp] theorem FinD_ret {rs:List ResultVar}{r:D}{S0:St}:FinD P rs r S0 S' .ret E S=((∃ s,resS P E S rs=some s∧s.toD=some r)∧Elder S0 S' S):=by
  simp only[FinD,reduceCtorEq,or_true,true_and]
theorem LCall.byD {md : List Nat} {f : FuncId} {fn : Func} {c : Code} {ss : List SV} {r : D} (hk : Keeps S S') (hf : P.funcs[f]? = some fn) (hb : fn.body = some c) (hname : (fn.name == "runtime.NumGoroutine") = false) {n : Nat} (hn : fn.ntmps = n) (hle : ss.length ≤ n) (hfew : n ≤ globalsAt) {rs : List ResultVar} (hrs : fn.results.toList = rs)
    (h:@VCt true P ⟨c⟩ (startE S.gl ss) { S with n:=n,md:=md } (FinD P rs r S S')):LCall P f ss S (.d r) S':=LCall.elder (md:=md) hf hb hname hn hle hfew hk rfl (by rw[hrs];exact (VC.sound h).mono fun _ _ _ ⟨h1,⟨s,h2,h4⟩,h3⟩=>⟨h1, .inr ⟨s,r,h2,h4,rfl⟩,h3⟩)
@[simp] theorem upd_app {α:Type} (f:Nat→Option α) (k:Nat) (x:α) (i:Nat):upd f k x i=if i=k then some x else f i:=(rfl)
@[simp] theorem adv_n (k:Nat):(S.adv k).n=S.n:=(rfl)
@[simp] theorem adv_B (k:Nat):(S.adv k).B=S.B:=(rfl)
@[simp] theorem adv_T (k:Nat):(S.adv k).T=S.T:=(rfl)
@[simp] theorem adv_nx (k:Nat):(S.adv k).nx=S.nx+k:=(rfl)
@[simp] theorem adv_md (k:Nat):(S.adv k).md=S.md:=(rfl)
@[simp] theorem adv_gl (k:Nat):(S.adv k).gl=S.gl:=(rfl)
@[simp] theorem new_n (id:Nat) (cs:List SV):(S.new id cs).n=S.n:=(rfl)
@[simp] theorem new_B (id:Nat) (cs:List SV):(S.new id cs).B=upd S.B id cs:=(rfl)
@[simp] theorem new_T (id:Nat) (cs:List SV):(S.new id cs).T=S.T:=(rfl)
@[simp] theorem new_nx (id:Nat) (cs:List SV):(S.new id cs).nx=S.nx:=(rfl)
@[simp] theorem new_md (id:Nat) (cs:List SV):(S.new id cs).md=S.md:=(rfl)
@[simp] theorem new_gl (id:Nat) (cs:List SV):(S.new id cs).gl=S.gl:=(rfl)
@[simp] theorem set_n (id:Nat) (cs:List SV):(S.set id cs).n=S.n:=(rfl)
@[simp] theorem set_B (id:Nat) (cs:List SV):(S.set id cs).B=upd S.B id cs:=(rfl)
@[simp] theorem set_T (id:Nat) (cs:List SV):(S.set id cs).T=S.T:=(rfl)
@[simp] theorem set_nx (id:Nat) (cs:List SV):(S.set id cs).nx=S.nx:=(rfl)
@[simp] theorem set_md (id:Nat) (cs:List SV):(S.set id cs).md=S.md:=(rfl)
@[simp] theorem set_gl (id:Nat) (cs:List SV):(S.set id cs).gl=S.gl:=(rfl)
@[simp] theorem tipTo_n (i k sz:Nat):(S.tipTo i k sz).n=S.n:=(rfl)
@[simp] theorem tipTo_B (i k sz:Nat):(S.tipTo i k sz).B=S.B:=(rfl)
@[simp] theorem tipTo_T (i k sz:Nat):(S.tipTo i k sz).T=upd S.T i (k,sz):=(rfl)
@[simp] theorem tipTo_nx (i k sz:Nat):(S.tipTo i k sz).nx=S.nx:=(rfl)
@[simp] theorem tipTo_md (i k sz:Nat):(S.tipTo i k sz).md=S.md:=(rfl)
@[simp] theorem tipTo_gl (i k sz:Nat):(S.tipTo i k sz).gl=S.gl:=(rfl)
@[simp] theorem app_no (id:Nat):S.app id .no=S:=(rfl)
@[simp] theorem app_new (id:Nat) (cs:List SV):S.app id (.new cs)=S.new id cs:=(rfl)
@[simp] theorem app_set (id b:Nat) (cs:List SV):S.app id (.set b cs)=S.set b cs:=(rfl)
@[simp] theorem app_tip (id i k sz:Nat):S.app id (.tip i k sz)=S.tipTo i k sz:=(rfl)
@[simp] theorem startS_n (gl:Nat→Option D) (md:List Nat) (n:Nat):(startS gl md n).n=n:=(rfl)
@[simp] theorem startS_B (gl:Nat→Option D) (md:List Nat) (n:Nat):(startS gl md n).B=fun _=>none:=(rfl)
@[simp] theorem startS_T (gl:Nat→Option D) (md:List Nat) (n:Nat):(startS gl md n).T=fun _=>none:=(rfl)
@[simp] theorem startS_nx (gl:Nat→Option D) (md:List Nat) (n:Nat):(startS gl md n).nx=0:=(rfl)
@[simp] theorem startS_md (gl:Nat→Option D) (md:List Nat) (n:Nat):(startS gl md n).md=md:=(rfl)
@[simp] theorem startS_gl (gl:Nat→Option D) (md:List Nat) (n:Nat):(startS gl md n).gl=gl:=(rfl)
@[simp] theorem put_some (E:Env) (k:Nat) (s:SV):Env.put E (some k) s=upd E k s:=(rfl)
@[simp] theorem put_none (E:Env) (s:SV):Env.put E none s=E:=(rfl)
@[simp] theorem startE_app (gl:Nat→Option D) (args:List SV) (k:Nat):startE gl args k=if k<1048576 then args[k]? else (gl (k - 1048576)).map .d:=(rfl)
@[simp] theorem evalO_tmp (E:Env) (t:Nat):evalO E (.tmp t)=if t<1048576 then E t else none:=(rfl)
@[simp] theorem evalO_const (E:Env) (c:Value):evalO E (.const c)=ofConst c:=(rfl)
@[simp] theorem evalO_func (E:Env) (f:FuncId):evalO E (.func f)=some (.fn (.func f) [] []):=(rfl)
@[simp] theorem ofConst_bool (b:Bool):ofConst (.bool b)=some (.d (.v (.bool b))):=(rfl)
@[simp] theorem ofConst_int (k:IntKind) (n:Int):ofConst (.int k n)=some (.d (.v (.int k n))):=(rfl)
@[simp] theorem ofConst_string (s:ByteArray):ofConst (.string s)=some (.d (.v (.string s))):=(rfl)
@[simp] theorem ofConst_nilS:ofConst (.slice none 0 0)=some (.fl [] 0):=(rfl)
@[simp] theorem ofConst_nilI:ofConst .nilIface=some (.d (.v .nilIface)):=(rfl)
@[simp] theorem ofConst_nilF:ofConst .nilFunc=some (.d (.v .nilFunc)):=(rfl)
@[simp] theorem ofConst_nilM:ofConst (.map none)=some (.d (.v (.map none))):=(rfl)
@[simp] theorem dstOk_some (k n:Nat):dstOk (some k) n=decide (k<n):=(rfl)
@[simp] theorem dstOk_none (n:Nat):dstOk none n=true:=(rfl)
section
variable {id:Nat}{d:Option Nat}{ty:TypeId}{p:String}{af:Array Edge}{g:Option (Nat×Bool)}{dr:Bool}{AA:Ar}{bb ii:Nat}{ll:List Oper}{QQ:Env→St→Prop}
@[simp] theorem SeeT_move (x:Operand):@SeeT true dr P AA bb ii ⟨⟨d, .move x,ty,p,af,g⟩⟩ ⟨ll⟩ E S QQ=OpT ((evalO E x).map fun s=>(s, .no)) (fun t s e=>@VLt t dr P AA bb (ii+1) ⟨ll⟩ (E.put d s) (S.app (bb+ii) e) QQ):=SeeT_op_ rfl
@[simp] theorem SeeT_assign (x:Operand):@SeeT true dr P AA bb ii ⟨⟨d, .assign x,ty,p,af,g⟩⟩ ⟨ll⟩ E S QQ=OpT ((evalO E x).map fun s=>(s, .no)) (fun t s e=>@VLt t dr P AA bb (ii+1) ⟨ll⟩ (E.put d s) (S.app (bb+ii) e) QQ):=SeeT_op_ rfl
def pick3:Option SV→Option SV→Option SV→Option (SV×Eff)
  | some (.d (.v (.bool b))),some s,some t=>some (if b=true then s else t, .no)
  | _,_,_=>none
@[simp] theorem pick3_some (b:Bool) (s t:SV):pick3 (some (.d (.v (.bool b)))) (some s) (some t)=some (if b=true then s else t, .no):=(rfl)
@[simp] theorem SeeT_pick (c x y:Operand):@SeeT true dr P AA bb ii ⟨⟨d, .pick c x y,ty,p,af,g⟩⟩ ⟨ll⟩ E S QQ=OpT (pick3 (evalO E c) (evalO E x) (evalO E y)) (fun t s e=>@VLt t dr P AA bb (ii+1) ⟨ll⟩ (E.put d s) (S.app (bb+ii) e) QQ):=SeeT_op_ rfl
@[simp] theorem SeeT_alloc (T:TypeId):@SeeT true dr P AA bb ii ⟨⟨d, .alloc T,ty,p,af,g⟩⟩ ⟨ll⟩ E S QQ=OpT ((zeroCellsOf P T).map fun cs=>(.op (bb+ii) 0, .new cs)) (fun t s e=>@VLt t dr P AA bb (ii+1) ⟨ll⟩ (E.put d s) (S.app (bb+ii) e) QQ):=SeeT_op_ rfl
def boxE (id:Nat):Option SV→Option (SV×Eff)
  | some s=>if s.one=true then some (.op id 0, .new s.cells) else none
  | none=>none
@[simp] theorem boxE_some (s:SV):boxE id (some s)=if s.one=true then some (.op id 0, .new s.cells) else none:=(rfl)
@[simp] theorem SeeT_box (T:TypeId) (x:Operand):@SeeT true dr P AA bb ii ⟨⟨d, .box T x,ty,p,af,g⟩⟩ ⟨ll⟩ E S QQ=OpT (boxE (bb+ii) (evalO E x)) (fun t s e=>@VLt t dr P AA bb (ii+1) ⟨ll⟩ (E.put d s) (S.app (bb+ii) e) QQ):=SeeT_op_ rfl
def buildE (P:Program) (T:TypeId):Option (List SV)→Option (List (Nat×List SV))→Bool→Option (SV×Eff)
  | some zs,some l,true=>(fillL (placeOf P T) zs l).map fun cs=>(.ag cs, .no)
  | _,_,_=>none
@[simp] theorem buildE_some (T:TypeId) (zs:List SV) (l:List (Nat×List SV)):buildE P T (some zs) (some l) true=(fillL (placeOf P T) zs l).map fun cs=>(.ag cs, .no):=(rfl)
@[simp] theorem SeeT_build (T:TypeId) (ps:Array (Nat×Operand)):@SeeT true dr P AA bb ii ⟨⟨d, .build T ps,ty,p,af,g⟩⟩ ⟨ll⟩ E S QQ=OpT (buildE P T (zeroCellsOf P T) (partsS E ps.toList) (sized P T)) (fun t s e=>@VLt t dr P AA bb (ii+1) ⟨ll⟩ (E.put d s) (S.app (bb+ii) e) QQ):=SeeT_op_ rfl
def buildSliceE (n:Nat) (mk:Option (List SV×Nat×Nat)) (pv:Option (List (Nat×List SV))):Option (List D×Nat)→Option (List (Nat×List D))→Option (SV×Eff)
  | some (zs,sz),some l=>if n*sz≤16777216 then (fillL (fun i=>some (i*sz,sz)) ((List.range (n*sz)).map fun j=>zs.getD (j % sz) default) l).map fun cs=>(.fl cs n, .no) else none
  | _,_=>(buildV n mk pv).map fun p=>(.ls p.1 n, .no)
@[simp] theorem buildSliceE_some (n:Nat) (mk:Option (List SV×Nat×Nat)) (pv:Option (List (Nat×List SV))) (zs:List D) (sz:Nat) (l:List (Nat×List D)):buildSliceE n mk pv (some (zs,sz)) (some l)=if n*sz≤16777216 then (fillL (fun i=>some (i*sz,sz)) ((List.range (n*sz)).map fun j=>zs.getD (j % sz) default) l).map fun cs=>(.fl cs n, .no) else none:=(rfl)
def rowC2 (c2:Bool) (n:Nat) (mk:Option (List SV×Nat×Nat)) (pv:Option (List (Nat×List SV))) (zs:Option (List D×Nat)) (l:Option (List (Nat×List D))):Option (SV×Eff) :=
  match c2 with | true=>(buildV n mk pv).map fun p=>(.ls p.1 n, .no) | false=>buildSliceE n mk pv zs l
@[simp] theorem rowC2_false (n:Nat) (mk:Option (List SV×Nat×Nat)) (pv:Option (List (Nat×List SV))) (zs:Option (List D×Nat)) (l:Option (List (Nat×List D))):rowC2 false n mk pv zs l=buildSliceE n mk pv zs l:=(rfl)
def RowT (c c2:Bool) (id n:Nat) (dr:Bool) [A:Ar] (K:Bool→SV→Eff→Prop) (mk:Option (List SV×Nat×Nat)) (pv:Option (List (Nat×List SV))) (zs:Option (List D×Nat)) (l:Option (List (Nat×List D))):Prop :=
  match c with | true=>@TxtT dr A=true∧rowXX c2 id n (HidK K) mk pv zs l | false=>OpT (rowC2 c2 n mk pv zs l) K
@[simp] theorem RowT_false (c2:Bool) (id n:Nat) (A:Ar) (K:Bool→SV→Eff→Prop) (mk:Option (List SV×Nat×Nat)) (pv:Option (List (Nat×List SV))) (zs:Option (List D×Nat)) (l:Option (List (Nat×List D))):@RowT false c2 id n dr A K mk pv zs l=OpT (rowC2 c2 n mk pv zs l) K:=(rfl)
@[simp] theorem RowT_true (id n:Nat) (A:Ar) (K:Bool→SV→Eff→Prop) (mk:Option (List SV×Nat×Nat)) (pv:Option (List (Nat×List SV))) (zs:List D) (sz:Nat) (l:List (Nat×List D)):@RowT true false id n false A K mk pv (some (zs,sz)) (some l)=(n*sz≤16777216∧∃ cs,fillL (fun i=>some (i*sz,sz)) ((List.range (n*sz)).map fun j=>zs.getD (j % sz) default) l=some cs∧n*sz≤cs.length∧K true (.sk id n sz) (.new (cs.map .d))):=by
  show (@TxtT false A=true∧_)=_
  rw[TxtT_text]
  simp only[true_and]
  rfl
theorem evalOp_buildSlice {id:Nat}{d:Option Nat}{T:TypeId}{n:Nat}{ps:Array (Nat×Operand)}{ty:TypeId}{p:String}{af:Array Edge}{g:Option (Nat×Bool)} :
    evalOp P E S id ⟨d, .buildSlice T n ps,ty,p,af,g⟩=if (d.any fun d=>S.md.contains d)=false∧(d.any fun d=>S.md.contains (d+1000000))=true then (buildV n (makeOf P T) (partsS E ps.toList)).map fun p=>(.ls p.1 n, .no) else match zerosOf P T,partsD E ps.toList with
    | some (zs,sz),some l=>if n*sz≤16777216 then (fillL (fun i=>some (i*sz,sz)) ((List.range (n*sz)).map fun j=>zs.getD (j % sz) default) l).bind (rowE S.md d n) else none
    | _,_=>(buildV n (makeOf P T) (partsS E ps.toList)).bind (rowEL S.md d n):=(rfl)
@[simp] theorem SeeT_buildSlice (T n:Nat) (ps:Array (Nat×Operand)):@SeeT true dr P AA bb ii ⟨⟨d, .buildSlice T n ps,ty,p,af,g⟩⟩ ⟨ll⟩ E S QQ = @RowT (d.any fun d=>S.md.contains d) (d.any fun d=>S.md.contains (d+1000000)) (bb+ii) n dr AA (fun t s e=>@VLt t dr P AA bb (ii+1) ⟨ll⟩ (E.put d s) (S.app (bb+ii) e) QQ) (makeOf P T) (partsS E ps.toList) (zerosOf P T) (partsD E ps.toList):=by
  rw[SeeT_x_ rfl,evalOp_buildSlice]
  have e4:∀ md:List Nat,(buildV n (makeOf P T) (partsS E ps.toList)).bind (rowEL md d n)=if (d.any fun d=>md.contains d)=true then none else (buildV n (makeOf P T) (partsS E ps.toList)).map fun p=>(.ls p.1 n, .no):=fun md=>by
    cases buildV n (makeOf P T) (partsS E ps.toList) with
    | none=>split<;>rfl
    | some p=>show rowEL md d n p=_;unfold rowEL;split<;>rfl
  cases h:(d.any fun d=>S.md.contains d) with
  | false =>
    have e1:∀ K,evalX P E S (bb+ii) ⟨d, .buildSlice T n ps,ty,p,af,g⟩ K=False:=fun K=>by
      show ((d.any fun d=>S.md.contains d)=true∧_)=_
      rw[h];simp
    rw[e1,and_false,or_false,RowT_false]
    cases h2:(d.any fun d=>S.md.contains (d+1000000)) with
    | true=>rw[if_pos ⟨rfl,rfl⟩];rfl
    | false =>
      rw[if_neg (fun hh=>by cases hh.2),e4,if_neg (by rw[h];simp)]
      have e3:rowE S.md d n=fun cs=>some (.fl cs n, .no):=by
        funext cs
        unfold rowE
        rw[if_neg (by rw[h];simp)]
      rw[e3,rowC2_false]
      unfold buildSliceE
      rcases zerosOf P T with _ | ⟨zs,sz⟩<;>rcases partsD E ps.toList with _ | l
      · rfl
      · rfl
      · rfl
      · simp only
        split
        · generalize fillL _ _ _=r
          cases r<;>rfl
        · rfl
  | true =>
    have e2:(match zerosOf P T,partsD E ps.toList with
        | some (zs,sz),some l=>if n*sz≤16777216 then (fillL (fun i=>some (i*sz,sz)) ((List.range (n*sz)).map fun j=>zs.getD (j % sz) default) l).bind (rowE S.md d n) else none
        | _,_=>(buildV n (makeOf P T) (partsS E ps.toList)).bind (rowEL S.md d n))=none:=by
      have e3:rowE S.md d n=fun cs=>none:=by
        funext cs
        unfold rowE
        rw[if_pos h]
      rw[e3,e4,if_pos h]
      rcases zerosOf P T with _ | ⟨zs,sz⟩<;>rcases partsD E ps.toList with _ | l
      · rfl
      · rfl
      · rfl
      · simp only
        split
        · generalize fillL _ _ _=r
          cases r<;>rfl
        · rfl
    rw[if_neg (fun hh=>by cases hh.1),e2]
    show (False∨(@TxtT dr AA=true∧((d.any fun d=>S.md.contains d)=true∧rowXX _ _ _ _ _ _ _ _)))=(@TxtT dr AA=true∧rowXX _ _ _ _ _ _ _ _)
    rw[h]
    simp only[false_or,true_and]
def loadE (P:Program) (T:TypeId) (B:Nat→Option (List SV)):Option SV→Option (SV×Eff)
  | some (.d (.pp cs off))=>(loadD P T cs off).map fun s=>(.d s, .no)
  | some (.op b off)=>match B b with
    | some cs=>(loadS P T cs off).map fun s=>(s, .no)
    | none=>none
  | _=>none
@[simp] theorem loadE_pp (T:TypeId) (B:Nat→Option (List SV)) (cs:List D) (off:Nat):loadE P T B (some (.d (.pp cs off)))=(loadD P T cs off).map fun s=>(.d s, .no):=(rfl)
def loadB (P:Program) (T:TypeId) (off:Nat):Option (List SV)→Option (SV×Eff)
  | some cs=>(loadS P T cs off).map fun s=>(s, .no)
  | none=>none
@[simp] theorem loadB_some (T off:Nat) (cs:List SV):loadB P T off (some cs)=(loadS P T cs off).map fun s=>(s, .no):=(rfl)
@[simp] theorem loadE_op (T:TypeId) (B:Nat→Option (List SV)) (b off:Nat):loadE P T B (some (.op b off))=loadB P T off (B b):=(rfl)
@[simp] theorem SeeT_load (T:TypeId) (x:Operand):@SeeT true dr P AA bb ii ⟨⟨d, .load T x,ty,p,af,g⟩⟩ ⟨ll⟩ E S QQ=OpT (loadE P T S.B (evalO E x)) (fun t s e=>@VLt t dr P AA bb (ii+1) ⟨ll⟩ (E.put d s) (S.app (bb+ii) e) QQ):=SeeT_op_ rfl
def storeE (B:Nat→Option (List SV)):Option SV→Option SV→Option Nat→Option (SV×Eff)
  | some (.op b off),some s,some n=>match B b with
    | some cs=>onlyIf (s.one=true∧s.cells.length=n∧off+n≤cs.length) (.d (.v undef), .set b (cs.take off++s.cells++cs.drop (off+n)))
    | none=>none
  | _,_,_=>none
def storeB (b off n:Nat) (s:SV):Option (List SV)→Option (SV×Eff)
  | some cs=>onlyIf (s.one=true∧s.cells.length=n∧off+n≤cs.length) (.d (.v undef), .set b (cs.take off++s.cells++cs.drop (off+n)))
  | none=>none
@[simp] theorem storeB_some (b off n:Nat) (s:SV) (cs:List SV):storeB b off n s (some cs)=onlyIf (s.one=true∧s.cells.length=n∧off+n≤cs.length) (.d (.v undef), .set b (cs.take off++s.cells++cs.drop (off+n))):=(rfl)
@[simp] theorem storeE_some (B:Nat→Option (List SV)) (b off n:Nat) (s:SV):storeE B (some (.op b off)) (some s) (some n)=storeB b off n s (B b):=(rfl)
@[simp] theorem SeeT_store (T:TypeId) (x y:Operand):@SeeT true dr P AA bb ii ⟨⟨d, .store T x y,ty,p,af,g⟩⟩ ⟨ll⟩ E S QQ=OpT (storeE S.B (evalO E x) (evalO E y) (szOf P T)) (fun t s e=>@VLt t dr P AA bb (ii+1) ⟨ll⟩ (E.put d s) (S.app (bb+ii) e) QQ):=SeeT_op_ rfl
def binE (P:Program) (op:BinOp) (T:TypeId):Option SV→Option SV→Option (SV×Eff)
  | some (.d (.v u)),some (.d (.v v))=>(binS P op T u v).map fun r=>(.d (.v r), .no)
  | _,_=>none
@[simp] theorem binE_some (op:BinOp) (T:TypeId) (u v:Value):binE P op T (some (.d (.v u))) (some (.d (.v v)))=(binS P op T u v).map fun r=>(.d (.v r), .no):=(rfl)
noncomputable def binE2 (P:Program) (gl:Nat→Option D) (op:BinOp) (T:TypeId):Option SV→Option SV→Option (SV×Eff)
  | some (.d (.v u)),some (.d (.v v))=>(binS P op T u v).map fun r=>(.d (.v r), .no)
  | some s,some t=>eqlE P gl op T s t
  | _,_=>none
@[simp] theorem binE2_some (gl:Nat→Option D) (op:BinOp) (T:TypeId) (u v:Value):binE2 P gl op T (some (.d (.v u))) (some (.d (.v v)))=(binS P op T u v).map fun r=>(.d (.v r), .no):=(rfl)
@[simp] theorem SeeT_bin_tmp (op:BinOp) (T T2:TypeId) (x:Operand) (t:Nat):@SeeT true dr P AA bb ii ⟨⟨d, .binOp op T x (.tmp t) T2,ty,p,af,g⟩⟩ ⟨ll⟩ E S QQ=OpT (binE2 P S.gl op T (evalO E x) (evalO E (.tmp t))) (fun t s e=>@VLt t dr P AA bb (ii+1) ⟨ll⟩ (E.put d s) (S.app (bb+ii) e) QQ):=SeeT_op_ rfl
@[simp] theorem SeeT_bin_int (op:BinOp) (T T2:TypeId) (x:Operand) (k:IntKind) (n:Int):@SeeT true dr P AA bb ii ⟨⟨d, .binOp op T x (.const (.int k n)) T2,ty,p,af,g⟩⟩ ⟨ll⟩ E S QQ=OpT (binE P op T (evalO E x) (some (.d (.v (.int k n))))) (fun t s e=>@VLt t dr P AA bb (ii+1) ⟨ll⟩ (E.put d s) (S.app (bb+ii) e) QQ):=SeeT_op_ rfl
@[simp] theorem SeeT_bin_string (op:BinOp) (T T2:TypeId) (x:Operand) (s:ByteArray):@SeeT true dr P AA bb ii ⟨⟨d, .binOp op T x (.const (.string s)) T2,ty,p,af,g⟩⟩ ⟨ll⟩ E S QQ=OpT (binE P op T (evalO E x) (some (.d (.v (.string s))))) (fun t s e=>@VLt t dr P AA bb (ii+1) ⟨ll⟩ (E.put d s) (S.app (bb+ii) e) QQ):=SeeT_op_ rfl
def nilTestE (P:Program) (op:BinOp) (T:TypeId) (c:Value):Option SV→Option (SV×Eff)
  | some s=>(evalNil P op T s c).map fun s=>(s, .no)
  | none=>none
@[simp] theorem nilTestE_some (op:BinOp) (T:TypeId) (c:Value) (s:SV):nilTestE P op T c (some s)=(evalNil P op T s c).map fun s=>(s, .no):=(rfl)
@[simp] theorem SeeT_bin_nilI (op:BinOp) (T T2:TypeId) (x:Operand):@SeeT true dr P AA bb ii ⟨⟨d, .binOp op T x (.const .nilIface) T2,ty,p,af,g⟩⟩ ⟨ll⟩ E S QQ=OpT (nilTestE P op T .nilIface (evalO E x)) (fun t s e=>@VLt t dr P AA bb (ii+1) ⟨ll⟩ (E.put d s) (S.app (bb+ii) e) QQ):=SeeT_op_ rfl
def unE (op:UnOp):Option SV→Option (SV×Eff)
  | some (.d (.v u))=>(unS op u).map fun r=>(.d (.v r), .no)
  | _=>none
@[simp] theorem unE_some (op:UnOp) (u:Value):unE op (some (.d (.v u)))=(unS op u).map fun r=>(.d (.v r), .no):=(rfl)
@[simp] theorem SeeT_un (op:UnOp) (T:TypeId) (x:Operand):@SeeT true dr P AA bb ii ⟨⟨d, .unOp op T x,ty,p,af,g⟩⟩ ⟨ll⟩ E S QQ=OpT (unE op (evalO E x)) (fun t s e=>@VLt t dr P AA bb (ii+1) ⟨ll⟩ (E.put d s) (S.app (bb+ii) e) QQ):=SeeT_op_ rfl
def makeE (P:Program) (S:St) (id:Nat) (d:Option Nat) (T:TypeId):Option SV→Option SV→Option (SV×Eff)
  | some s,some t=>evalMake P S id d T s t
  | _,_=>none
@[simp] theorem makeE_some (T:TypeId) (s t:SV):makeE P S id d T (some s) (some t)=evalMake P S id d T s t:=(rfl)
@[simp] theorem SeeT_makeSlice (T:TypeId) (x y:Operand):@SeeT true dr P AA bb ii ⟨⟨d, .makeSlice T x y,ty,p,af,g⟩⟩ ⟨ll⟩ E S QQ=OpT (makeE P S (bb+ii) d T (evalO E x) (evalO E y)) (fun t s e=>@VLt t dr P AA bb (ii+1) ⟨ll⟩ (E.put d s) (S.app (bb+ii) e) QQ):=SeeT_op_ rfl
def sliceE (P:Program) (E:Env) (S:St) (T:TypeId) (lo hi:Option Operand):Option SV→Option (SV×Eff)
  | some s=>(evalSlice P E S T s lo hi).map fun s=>(s, .no)
  | none=>none
@[simp] theorem sliceE_some (T:TypeId) (lo hi:Option Operand) (s:SV):sliceE P E S T lo hi (some s)=(evalSlice P E S T s lo hi).map fun s=>(s, .no):=(rfl)
@[simp] theorem SeeT_slice (T:TypeId) (x:Operand) (lo hi:Option Operand):@SeeT true dr P AA bb ii ⟨⟨d, .slice T x lo hi none,ty,p,af,g⟩⟩ ⟨ll⟩ E S QQ=OpT (sliceE P E S T lo hi (evalO E x)) (fun t s e=>@VLt t dr P AA bb (ii+1) ⟨ll⟩ (E.put d s) (S.app (bb+ii) e) QQ):=SeeT_op_ rfl
def fieldE (P:Program):Option SV→Option (TypeId×Nat)→Option (SV×Eff)
  | some (.ag cs),some (t,off)=>(loadS P t cs off).map fun s=>(s, .no)
  | some (.d (.agg cs)),some (t,off)=>(loadD P t cs off).map fun s=>(.d s, .no)
  | _,_=>none
@[simp] theorem fieldE_ag (cs:List SV) (t off:Nat):fieldE P (some (.ag cs)) (some (t,off))=(loadS P t cs off).map fun s=>(s, .no):=(rfl)
@[simp] theorem fieldE_agg (cs:List D) (t off:Nat):fieldE P (some (.d (.agg cs))) (some (t,off))=(loadD P t cs off).map fun s=>(.d s, .no):=(rfl)
@[simp] theorem SeeT_field (T:TypeId) (x:Operand) (i:Nat):@SeeT true dr P AA bb ii ⟨⟨d, .field T x i,ty,p,af,g⟩⟩ ⟨ll⟩ E S QQ=OpT (fieldE P (evalO E x) (fieldTy P T i)) (fun t s e=>@VLt t dr P AA bb (ii+1) ⟨ll⟩ (E.put d s) (S.app (bb+ii) e) QQ):=SeeT_op_ rfl
def fieldAddrE:Option SV→Option Nat→Option (SV×Eff)
  | some (.d (.pp cs off)),some n=>some (.d (.pp cs (off+n)), .no)
  | some (.op b off),some n=>some (.op b (off+n), .no)
  | _,_=>none
@[simp] theorem fieldAddrE_pp (cs:List D) (off n:Nat):fieldAddrE (some (.d (.pp cs off))) (some n)=some (.d (.pp cs (off+n)), .no):=(rfl)
@[simp] theorem fieldAddrE_op (b off n:Nat):fieldAddrE (some (.op b off)) (some n)=some (.op b (off+n), .no):=(rfl)
@[simp] theorem SeeT_fieldAddr (T:TypeId) (x:Operand) (i:Nat):@SeeT true dr P AA bb ii ⟨⟨d, .fieldAddr T x i,ty,p,af,g⟩⟩ ⟨ll⟩ E S QQ=OpT (fieldAddrE (evalO E x) (fieldOf P T i)) (fun t s e=>@VLt t dr P AA bb (ii+1) ⟨ll⟩ (E.put d s) (S.app (bb+ii) e) QQ):=SeeT_op_ rfl
def indexAddrE (P:Program) (T:TypeId):Option SV→Option SV→Option (SV×Eff)
  | some s,some (.d (.v (.int _ i)))=>(evalIndexAddr P T s i).map fun s=>(s, .no)
  | _,_=>none
@[simp] theorem indexAddrE_some (T:TypeId) (s:SV) (k:IntKind) (i:Int):indexAddrE P T (some s) (some (.d (.v (.int k i))))=(evalIndexAddr P T s i).map fun s=>(s, .no):=(rfl)
@[simp] theorem SeeT_indexAddr (T:TypeId) (x y:Operand):@SeeT true dr P AA bb ii ⟨⟨d, .indexAddr T x y,ty,p,af,g⟩⟩ ⟨ll⟩ E S QQ=OpT (indexAddrE P T (evalO E x) (evalO E y)) (fun t s e=>@VLt t dr P AA bb (ii+1) ⟨ll⟩ (E.put d s) (S.app (bb+ii) e) QQ):=SeeT_op_ rfl
def byteI (s:ByteArray) (i:Nat):Int:=((s.data.toList.getD i 0).toNat:Int)
def indexE:Option SV→Option SV→Bool→Option (SV×Eff)
  | some (.d (.v (.string s))),some (.d (.v (.int _ i))),true=>onlyIf (0≤i∧i<s.size) (.d (.v (.int .u8 (s.data.toList.getD i.toNat 0).toNat)), .no)
  | _,_,_=>none
@[simp] theorem indexE_some (s:ByteArray) (k:IntKind) (i:Int):indexE (some (.d (.v (.string s)))) (some (.d (.v (.int k i)))) true=onlyIf (0≤i∧i<s.size) (.d (.v (.int .u8 (byteI s i.toNat))), .no):=(rfl)
@[simp] theorem SeeT_index (T:TypeId) (x y:Operand):@SeeT true dr P AA bb ii ⟨⟨d, .index T x y,ty,p,af,g⟩⟩ ⟨ll⟩ E S QQ=OpT (indexE (evalO E x) (evalO E y) (isString P T)) (fun t s e=>@VLt t dr P AA bb (ii+1) ⟨ll⟩ (E.put d s) (S.app (bb+ii) e) QQ):=SeeT_op_ rfl
def mkIfcE (T:TypeId):Option SV→Option Bool→Option (SV×Eff)
  | some s,some false=>some (mkIfc T s, .no)
  | _,_=>none
@[simp] theorem mkIfcE_some (T:TypeId) (s:SV):mkIfcE T (some s) (some false)=some (mkIfc T s, .no):=(rfl)
@[simp] theorem SeeT_makeInterface (T:TypeId) (x:Operand):@SeeT true dr P AA bb ii ⟨⟨d, .makeInterface T x,ty,p,af,g⟩⟩ ⟨ll⟩ E S QQ=OpT (mkIfcE T (evalO E x) (isIface P T)) (fun t s e=>@VLt t dr P AA bb (ii+1) ⟨ll⟩ (E.put d s) (S.app (bb+ii) e) QQ):=SeeT_op_ rfl
def assertE (P:Program) (A:TypeId) (ok:Bool):Option SV→Option (SV×Eff)
  | some s=>(evalAssert P A ok s).map fun s=>(s, .no)
  | none=>none
@[simp] theorem assertE_some (A:TypeId) (ok:Bool) (s:SV):assertE P A ok (some s)=(evalAssert P A ok s).map fun s=>(s, .no):=(rfl)
@[simp] theorem SeeT_typeAssert (x:Operand) (T A:TypeId) (ok:Bool):@SeeT true dr P AA bb ii ⟨⟨d, .typeAssert x T A ok,ty,p,af,g⟩⟩ ⟨ll⟩ E S QQ=OpT (assertE P A ok (evalO E x)) (fun t s e=>@VLt t dr P AA bb (ii+1) ⟨ll⟩ (E.put d s) (S.app (bb+ii) e) QQ):=SeeT_op_ rfl
def extractE (i:Nat):Option SV→Option (SV×Eff)
  | some t=>(tupS t i).map fun s=>(s, .no)
  | none=>none
@[simp] theorem extractE_some (i:Nat) (t:SV):extractE i (some t)=(tupS t i).map fun s=>(s, .no):=(rfl)
@[simp] theorem SeeT_extract (x:Operand) (i:Nat):@SeeT true dr P AA bb ii ⟨⟨d, .extract x i,ty,p,af,g⟩⟩ ⟨ll⟩ E S QQ=OpT (extractE i (evalO E x)) (fun t s e=>@VLt t dr P AA bb (ii+1) ⟨ll⟩ (E.put d s) (S.app (bb+ii) e) QQ):=SeeT_op_ rfl
def lenE (P:Program) (T:TypeId):Option SV→Option (SV×Eff)
  | some s=>(evalLen P s T).map fun s=>(s, .no)
  | none=>none
@[simp] theorem lenE_some (T:TypeId) (s:SV):lenE P T (some s)=(evalLen P s T).map fun s=>(s, .no):=(rfl)
def LenT (P:Program) (S:St) (dr:Bool) [A:Ar] (T:TypeId) (K:Bool→SV→Eff→Prop) (s:Option SV):Prop:=OpT (lenE P T s) K∨(@TxtT dr A=true∧lenX P S T (HidK K) s)
@[simp] theorem LenT_d (A:Ar) (T:TypeId) (K:Bool→SV→Eff→Prop) (x:D):@LenT P S dr A T K (some (.d x))=OpT (lenE P T (some (.d x))) K:=by simp[LenT,lenX]
@[simp] theorem LenT_fl (A:Ar) (T:TypeId) (K:Bool→SV→Eff→Prop) (cs:List D) (n:Nat):@LenT P S dr A T K (some (.fl cs n))=OpT (lenE P T (some (.fl cs n))) K:=by simp[LenT,lenX]
@[simp] theorem LenT_sk (A:Ar) (T:TypeId) (K:Bool→SV→Eff→Prop) (b n sz:Nat):@LenT P S dr A T K (some (.sk b n sz))=OpT (lenE P T (some (.sk b n sz))) K:=by simp[LenT,lenX]
@[simp] theorem SeeT_len (x:Operand) (T:TypeId):@SeeT true dr P AA bb ii ⟨⟨d, .call { callee:=.builtin .len,args:=#[x],argTypes:=#[T] },ty,p,af,g⟩⟩ ⟨ll⟩ E S QQ = @LenT P S dr AA T (fun t s e=>@VLt t dr P AA bb (ii+1) ⟨ll⟩ (E.put d s) (S.app (bb+ii) e) QQ) (evalO E x):=SeeT_x_ rfl
@[simp] theorem SeeT_makeFunc (fn:Fn) (xs ys:Array Operand):@SeeT true dr P AA bb ii ⟨⟨d, .makeFunc fn xs ys,ty,p,af,g⟩⟩ ⟨ll⟩ E S QQ=ArgT (argsS E xs.toList) (fun t as=>ArgT (argsS E ys.toList) (fun t bs=>@VLt t dr P AA bb (ii+1) ⟨ll⟩ (E.put d (.fn fn as bs)) (S.app (bb+ii) .no) QQ)):=by
  rw[SeeT_op_ rfl]
  show OpT (match argsS E xs.toList,argsS E ys.toList with | some xs,some ys=>some (SV.fn fn xs ys,Eff.no) | _,_=>none) _=_
  cases argsS E xs.toList with
  | none=>simp[OpT,Op1,ArgT,ArgK]
  | some as=>cases argsS E ys.toList<;>simp[OpT,Op1,ArgT,ArgK]
@[simp] theorem SeeT_makeMap (T:TypeId):@SeeT true false P AA bb ii ⟨⟨d, .makeMap T none,ty,p,af,g⟩⟩ ⟨ll⟩ E S QQ = @VLt true false P AA bb (ii+1) ⟨ll⟩ (E.put d (.mv (bb+ii))) (S.app (bb+ii) (.new [.mc [] []])) QQ:=by
  rw[SeeT_x_ rfl,TxtT_text]
  show (False∨(true=true∧_))=_
  simp only[false_or,true_and]
  rfl
@[simp] theorem SeeT_lookup (T:TypeId) (x y:Operand) (ok:Bool):@SeeT true false P AA bb ii ⟨⟨d, .lookup T x y ok,ty,p,af,g⟩⟩ ⟨ll⟩ E S QQ=lookX P S ok T (HidK (fun t s e=>@VLt t false P AA bb (ii+1) ⟨ll⟩ (E.put d s) (S.app (bb+ii) e) QQ)) (evalO E x) (evalO E y):=by
  rw[SeeT_x_ rfl,TxtT_text]
  show (OpT (lookE P T ok (evalO E x) (evalO E y)) _∨(true=true∧lookX _ _ _ _ _ _ _))=_
  simp only[true_and]
  refine propext (or_iff_right_of_imp ?_)
  unfold lookE
  split
  · rename_i ks vs t h1 h2
    intro h
    rw[h1,h2]
    cases hl:lookS P T ks (vs.map .d) t ok with
    | none=>rw[hl] at h;exact h.elim
    | some r=>rw[hl] at h;exact⟨r,hl,h⟩
  · exact fun h=>h.elim
@[simp] theorem SeeT_mapUpdate (T:TypeId) (x y z:Operand):@SeeT true false P AA bb ii ⟨⟨d, .mapUpdate T x y z,ty,p,af,g⟩⟩ ⟨ll⟩ E S QQ=updX P S T (HidK (fun t s e=>@VLt t false P AA bb (ii+1) ⟨ll⟩ (E.put d s) (S.app (bb+ii) e) QQ)) (evalO E x) (evalO E y) (evalO E z):=by
  rw[SeeT_x_ rfl,TxtT_text]
  show (False∨(true=true∧updX _ _ _ _ _ _ _))=_
  simp only[false_or,true_and]
@[simp] theorem SeeT_range (T:TypeId) (x:Operand):@SeeT true false P AA bb ii ⟨⟨d, .range T x,ty,p,af,g⟩⟩ ⟨ll⟩ E S QQ=rangeX P (bb+ii) T (HidK (fun t s e=>@VLt t false P AA bb (ii+1) ⟨ll⟩ (E.put d s) (S.app (bb+ii) e) QQ)) (evalO E x):=by
  rw[SeeT_x_ rfl,TxtT_text]
  show (False∨(true=true∧rangeX _ _ _ _ _))=_
  simp only[false_or,true_and]
@[simp] theorem SeeT_next (x:Operand):@SeeT true false P AA bb ii ⟨⟨d, .next x false,ty,p,af,g⟩⟩ ⟨ll⟩ E S QQ=nextX S (HidK (fun t s e=>@VLt t false P AA bb (ii+1) ⟨ll⟩ (E.put d s) (S.app (bb+ii) e) QQ)) (evalO E x):=by
  rw[SeeT_x_ rfl,TxtT_text]
  show (False∨(true=true∧nextX _ _ _))=_
  simp only[false_or,true_and]
@[simp] theorem SeeT_entry (x:Operand):@SeeT true false P AA bb ii ⟨⟨d, .entry x,ty,p,af,g⟩⟩ ⟨ll⟩ E S QQ=entryX S (HidK (fun t s e=>@VLt t false P AA bb (ii+1) ⟨ll⟩ (E.put d s) (S.app (bb+ii) e) QQ)) (evalO E x):=by
  rw[SeeT_x_ rfl,TxtT_text]
  show (False∨(true=true∧entryX _ _ _))=_
  simp only[false_or,true_and]
@[simp] theorem lookX_mp (ok:Bool) (T:TypeId) (K:SV→Eff→Prop) (ks vs:List D) (s:ByteArray):lookX P S ok T K (some (.d (.mp ks vs))) (some (.d (.v (.string s))))=∃ r,lookS P T ks (vs.map .d) s ok=some r∧K r .no:=(rfl)
@[simp] theorem lookX_mv (ok:Bool) (T:TypeId) (K:SV→Eff→Prop) (b:Nat) (k:SV):lookX P S ok T K (some (.mv b)) (some k)=lookV P S.gl ok T K (S.B b) k:=(rfl)
@[simp] theorem lookV_str (gl:Nat→Option D) (ok:Bool) (T:TypeId) (K:SV→Eff→Prop) (ks:List D) (vs:List SV) (s:ByteArray):lookV P gl ok T K (some [.mc ks vs]) (.d (.v (.string s)))=∃ r,lookS P T ks vs s ok=some r∧K r .no:=(rfl)
@[simp] theorem updX_mv (T:TypeId) (K:SV→Eff→Prop) (b:Nat) (k v:SV):updX P S T K (some (.mv b)) (some k) (some v)=updV P S.gl T K b v (S.B b) k:=(rfl)
@[simp] theorem updV_str (gl:Nat→Option D) (T:TypeId) (K:SV→Eff→Prop) (b:Nat) (v:SV) (ks:List D) (vs:List SV) (s:ByteArray):updV P gl T K b v (some [.mc ks vs]) (.d (.v (.string s)))=∃ e c,Sh.mapOf P T=some e∧updK ks vs s v=some c∧K (.d (.v undef)) (.set b [c]):=(rfl)
@[simp] theorem rangeX_mp (T:TypeId) (K:SV→Eff→Prop) (ks vs:List D):rangeX P id T K (some (.d (.mp ks vs)))=(isMap P T=true∧K (.iv id) (.new [.ic ks vs []])):=(rfl)
@[simp] theorem nextX_iv (K:SV→Eff→Prop) (b:Nat):nextX S K (some (.iv b))=nextV K b (S.B b):=(rfl)
theorem nextV.mk {K:Bool→SV→Eff→Prop}{b:Nat}{ks vs:List D}{seen:List Nat} (h:∀ j (hk:j<ks.length) (hv:j<vs.length),j∉seen→K true (.tu [.d (.v (.bool true)), .d ks[j], .d vs[j]]) (.set b [.ic ks vs (seen++[j])])) (k:(∀ j,j<ks.length→j∈seen)→K true (.tu [.d (.v (.bool false))]) .no) :
    nextV (HidK K) b (some [.ic ks vs seen]):=⟨h,k⟩
@[simp] theorem entryX_iv (K:SV→Eff→Prop) (b:Nat):entryX S K (some (.iv b))=entryV K (S.B b):=(rfl)
def entry2 (K:SV→Eff→Prop):Option D→Option D→Prop
  | some k,some v=>K (.tu [.d k, .d v]) .no
  | _,_=>False
@[simp] theorem entry2_some (K:SV→Eff→Prop) (k v:D):entry2 K (some k) (some v)=K (.tu [.d k, .d v]) .no:=(rfl)
@[simp] theorem entryV_last (K:SV→Eff→Prop) (ks vs:List D) (seen:List Nat) (j:Nat):entryV K (some [.ic ks vs (seen++[j])])=entry2 K ks[j]? vs[j]?:=by
  unfold entryV
  apply propext
  constructor
  · rintro ⟨j',h1,hk,hv,h⟩
    simp at h1
    subst h1
    rw[List.getElem?_eq_getElem hk,List.getElem?_eq_getElem hv]
    exact h
  · intro h
    unfold entry2 at h
    split at h
    · rename_i h1 h2
      obtain⟨hk,rfl⟩:=List.getElem?_eq_some_iff.1 h1
      obtain⟨hv,rfl⟩:=List.getElem?_eq_some_iff.1 h2
      exact⟨j,by simp,hk,hv,h⟩
    · exact h.elim
def appendE (P:Program) (S:St) (id:Nat) (d:Option Nat) (T:TypeId):Option SV→Option SV→Option (SV×Eff)
  | some s,some t=>evalAppend P S id d T s t
  | _,_=>none
@[simp] theorem appendE_some (T:TypeId) (s t:SV):appendE P S id d T (some s) (some t)=evalAppend P S id d T s t:=(rfl)
theorem evalOp_append (x y:Operand) (T:TypeId):evalOp P E S id ⟨d, .call { callee:=.builtin .append,args:=#[x,y],argTypes:=#[T,T] },ty,p,af,g⟩=appendE P S id d T (evalO E x) (evalO E y):=by
  show (match evalO E x,evalO E y with | some s,some t=>if T=T then evalAppend P S id d T s t else none | _,_=>none)=_
  unfold appendE
  split<;>simp
@[simp] theorem SeeT_append (x y:Operand) (T:TypeId):@SeeT true dr P AA bb ii ⟨⟨d, .call { callee:=.builtin .append,args:=#[x,y],argTypes:=#[T,T] },ty,p,af,g⟩⟩ ⟨ll⟩ E S QQ=OpT (appendE P S (bb+ii) d T (evalO E x) (evalO E y)) (fun t s e=>@VLt t dr P AA bb (ii+1) ⟨ll⟩ (E.put d s) (S.app (bb+ii) e) QQ):=by
  rw[SeeT_op_ rfl,evalOp_append]
end
end
end Go.Sh
namespace Go.Sh
section
variable {P:Program}{E:Env}{S:St}
@[simp] theorem argsS_nil:argsS E []=some []:=(rfl)
def consO {α:Type}:Option α→Option (List α)→Option (List α)
  | some s,some ss=>some (s::ss)
  | _,_=>none
@[simp] theorem consO_some {α:Type} (s:α) (ss:List α):consO (some s) (some ss)=some (s::ss):=(rfl)
@[simp] theorem argsS_cons (x:Operand) (r:List Operand):argsS E (x::r)=consO (evalO E x) (argsS E r):=by
  simp only[argsS,consO]
  split<;>simp_all
@[simp] theorem toDs_nil:toDs []=some []:=by simp[toDs]
@[simp] theorem toDs_cons (s:SV) (r:List SV):toDs (s::r)=consO s.toD (toDs r):=by
  simp only[toDs,consO]
  split<;>simp_all
@[simp] theorem toDs_map:∀ xs:List D,toDs (xs.map .d)=some xs
  | []=>by simp
  | x::r=>by simp only[List.map_cons,toDs_cons,toDs_map r];rfl
@[simp] theorem toD_d (x:D):(SV.d x).toD=some x:=(rfl)
@[simp] theorem toD_fl (cs:List D) (n:Nat):(SV.fl cs n).toD=some (.ps cs n):=(rfl)
@[simp] theorem toD_ag (cs:List SV):(SV.ag cs).toD=(toDs cs).map .agg:=(rfl)
def fnO (f:Fn):Option (List D)→Option (List D)→Option D
  | some xs,some ys=>some (.fn f xs ys)
  | _,_=>none
@[simp] theorem fnO_some (f:Fn) (xs ys:List D):fnO f (some xs) (some ys)=some (.fn f xs ys):=(rfl)
@[simp] theorem toD_fn (f:Fn) (xs ys:List SV):(SV.fn f xs ys).toD=fnO f (toDs xs) (toDs ys):=by
  simp only[SV.toD]
  cases toDs xs<;>cases toDs ys<;>rfl
@[simp] theorem cells_fn (f:Fn) (xs ys:List SV):(SV.fn f xs ys).cells=[.fn f xs ys]:=(rfl)
@[simp] theorem cells_dfn (f:Fn) (xs ys:List D):(SV.d (.fn f xs ys)).cells=[.d (.fn f xs ys)]:=(rfl)
@[simp] theorem cells_mp (ks vs:List D):(SV.d (.mp ks vs)).cells=[.d (.mp ks vs)]:=(rfl)
@[simp] theorem one_fn (f:Fn) (xs ys:List SV):(SV.fn f xs ys).one=true:=(rfl)
@[simp] theorem one_dfn (f:Fn) (xs ys:List D):(SV.d (.fn f xs ys)).one=true:=(rfl)
@[simp] theorem one_mp (ks vs:List D):(SV.d (.mp ks vs)).one=true:=(rfl)
@[simp] theorem dcells_fn (f:Fn) (xs ys:List D):(D.fn f xs ys).cells=[.fn f xs ys]:=(rfl)
@[simp] theorem done_fn (f:Fn) (xs ys:List D):(D.fn f xs ys).one=true:=(rfl)
@[simp] theorem cells_ag (cs:List SV):(SV.ag cs).cells=cs:=(rfl)
@[simp] theorem cells_agg (cs:List D):(SV.d (.agg cs)).cells=cs.map .d:=(rfl)
@[simp] theorem cells_v (x:Value):(SV.d (.v x)).cells=[.d (.v x)]:=(rfl)
@[simp] theorem cells_ps (cs:List D) (n:Nat):(SV.d (.ps cs n)).cells=[.d (.ps cs n)]:=(rfl)
@[simp] theorem one_ag (cs:List SV):(SV.ag cs).one=true:=(rfl)
@[simp] theorem one_agg (cs:List D):(SV.d (.agg cs)).one=true:=(rfl)
@[simp] theorem one_bool (b:Bool):(SV.d (.v (.bool b))).one=true:=(rfl)
@[simp] theorem one_int (k:IntKind) (n:Int):(SV.d (.v (.int k n))).one=true:=(rfl)
@[simp] theorem one_string (s:ByteArray):(SV.d (.v (.string s))).one=true:=(rfl)
@[simp] theorem one_ps (cs:List D) (n:Nat):(SV.d (.ps cs n)).one=true:=(rfl)
@[simp] theorem dcells_agg (cs:List D):(D.agg cs).cells=cs:=(rfl)
@[simp] theorem dcells_v_string (s:ByteArray):(D.v (.string s)).cells=[.v (.string s)]:=(rfl)
@[simp] theorem done_agg (cs:List D):(D.agg cs).one=true:=(rfl)
@[simp] theorem done_string (s:ByteArray):(D.v (.string s)).one=true:=(rfl)
@[simp] theorem partsS_nil:partsS E []=some []:=(rfl)
def partC {α:Type} (i:Nat):Option (Bool×List α)→Option (List (Nat×List α))→Option (List (Nat×List α))
  | some (true,cs),some l=>some ((i,cs)::l)
  | _,_=>none
@[simp] theorem partC_some {α:Type} (i:Nat) (cs:List α) (l:List (Nat×List α)):partC i (some (true,cs)) (some l)=some ((i,cs)::l):=(rfl)
@[simp] theorem partsS_cons (i:Nat) (x:Operand) (r:List (Nat×Operand)):partsS E ((i,x)::r)=partC i ((evalO E x).map fun s=>(s.one,s.cells)) (partsS E r):=by
  simp only[partsS]
  cases evalO E x with
  | none=>rfl
  | some s =>
    cases partsS E r with
    | none=>simp[partC]
    | some l=>cases h:s.one<;>simp[partC,h]
@[simp] theorem partsD_nil:partsD E []=some []:=(rfl)
@[simp] theorem partsD_cons (i:Nat) (x:Operand) (r:List (Nat×Operand)):partsD E ((i,x)::r)=partC i (((evalO E x).bind SV.toD).map fun s=>(s.one,s.cells)) (partsD E r):=by
  simp only[partsD]
  cases evalO E x with
  | none=>rfl
  | some s =>
    cases partsD E r with
    | none=>simp[partC]
    | some l =>
      cases hd:s.toD with
      | none=>simp[partC,hd]
      | some d=>cases h:d.one<;>simp[partC,hd,h]
@[simp] theorem fillL_nil {α:Type} (place:Nat→Option (Nat×Nat)) (cells:List α):fillL place cells []=some cells:=(rfl)
def fill1 {α:Type} (place:Nat→Option (Nat×Nat)) (cells cs:List α) (r:List (Nat×List α)):Option (Nat×Nat)→Option (List α)
  | some (off,size)=>if cs.length=size∧off+size≤cells.length then fillL place (cells.take off++cs++cells.drop (off+size)) r else none
  | none=>none
@[simp] theorem fill1_some {α:Type} (place:Nat→Option (Nat×Nat)) (cells cs:List α) (r:List (Nat×List α)) (off size:Nat):fill1 place cells cs r (some (off,size))=if cs.length=size∧off+size≤cells.length then fillL place (cells.take off++cs++cells.drop (off+size)) r else none:=(rfl)
@[simp] theorem fillL_cons {α:Type} (place:Nat→Option (Nat×Nat)) (cells:List α) (i:Nat) (cs:List α) (r:List (Nat×List α)):fillL place cells ((i,cs)::r)=fill1 place cells cs r (place i):=by
  show (match place i with | some (off,size)=>if cs.length=size∧off+size≤cells.length then fillL place (cells.take off++cs++cells.drop (off+size)) r else none | none=>none)=_
  unfold fill1
  split<;>simp_all
@[simp] theorem evalLen_string (b:ByteArray) (T:TypeId):evalLen P (.d (.v (.string b))) T=if isString P T=true then some (.d (.v (.int .i64 b.size))) else none:=(rfl)
@[simp] theorem evalLen_ps (cs:List D) (n:Nat) (T:TypeId):evalLen P (.d (.ps cs n)) T=if isSlice P T=true then some (.d (.v (.int .i64 n))) else none:=(rfl)
@[simp] theorem evalLen_fl (cs:List D) (n:Nat) (T:TypeId):evalLen P (.fl cs n) T=if isSlice P T=true then some (.d (.v (.int .i64 n))) else none:=(rfl)
@[simp] theorem evalLen_sk (b n sz:Nat) (T:TypeId):evalLen P (.sk b n sz) T=if isSlice P T=true then some (.d (.v (.int .i64 n))) else none:=(rfl)
@[simp] theorem evalLen_mp (ks vs:List D) (T:TypeId):evalLen P (.d (.mp ks vs)) T=if isMap P T=true then some (.d (.v (.int .i64 ks.length))) else none:=(rfl)
@[simp] theorem rowS_ps (cs:List D) (n:Nat):rowS (.d (.ps cs n))=some (cs,n):=(rfl)
@[simp] theorem rowS_fl (cs:List D) (n:Nat):rowS (.fl cs n)=some (cs,n):=(rfl)
def rowAt (i:Int):Option (List D×Nat)→Option (TypeId×Nat)→Option SV
  | some (cs,n),some (_,sz)=>onlyIf (0≤i∧i<n) (.d (.pp cs (i.toNat*sz)))
  | _,_=>none
@[simp] theorem rowAt_some (i:Int) (cs:List D) (n e sz:Nat):rowAt i (some (cs,n)) (some (e,sz))=onlyIf (0≤i∧i<n) (.d (.pp cs (i.toNat*sz))):=(rfl)
@[simp] theorem evalIndexAddr_ps (T:TypeId) (cs:List D) (n:Nat) (i:Int):evalIndexAddr P T (.d (.ps cs n)) i=rowAt i (some (cs,n)) (elemOf P T):=(rfl)
@[simp] theorem evalIndexAddr_fl (T:TypeId) (cs:List D) (n:Nat) (i:Int):evalIndexAddr P T (.fl cs n) i=rowAt i (some (cs,n)) (elemOf P T):=(rfl)
def osAt (b off n:Nat) (i:Int):Option (TypeId×Nat)→Option SV
  | some (_,sz)=>onlyIf (0≤i∧i<n) (.op b (off+i.toNat*sz))
  | none=>none
@[simp] theorem osAt_some (b off n:Nat) (i:Int) (e sz:Nat):osAt b off n i (some (e,sz))=onlyIf (0≤i∧i<n) (.op b (off+i.toNat*sz)):=(rfl)
@[simp] theorem evalIndexAddr_os (T:TypeId) (b off n:Nat) (i:Int):evalIndexAddr P T (.os b off n) i=osAt b off n i (elemOf P T):=(rfl)
def skAt (b n:Nat) (i:Int):Option (TypeId×Nat)→Option SV
  | some (_,sz)=>onlyIf (0≤i∧i<n) (.op b (i.toNat*sz))
  | none=>none
@[simp] theorem skAt_some (b n:Nat) (i:Int) (e sz:Nat):skAt b n i (some (e,sz))=onlyIf (0≤i∧i<n) (.op b (i.toNat*sz)):=(rfl)
@[simp] theorem evalIndexAddr_sk (T:TypeId) (b n sz:Nat) (i:Int):evalIndexAddr P T (.sk b n sz) i=skAt b n i (elemOf P T):=(rfl)
@[simp] theorem onlyIf_map {α β:Type} (c:Prop) [Decidable c] (x:α) (f:α→β):(onlyIf c x).map f=onlyIf c (f x):=by
  unfold onlyIf
  split<;>rfl
@[simp] theorem onlyIf_true {α:Type} (x:α):onlyIf True x=some x:=(rfl)
@[simp] theorem mkIfc_d (T:TypeId) (x:D):mkIfc T (.d x)=.d (.ifc T x):=(rfl)
@[simp] theorem mkIfc_ag (T:TypeId) (cs:List SV):mkIfc T (.ag cs)=.fc T (.ag cs):=(rfl)
@[simp] theorem tupS_tu (cs:List SV) (i:Nat):tupS (.tu cs) i=cs[i]?:=(rfl)
@[simp] theorem tupS_tup (cs:List D) (i:Nat):tupS (.d (.tup cs)) i=cs[i]?.map .d:=(rfl)
def assertC (P:Program) (A:TypeId) (t:TypeId) (s:SV):Bool→Option SV→Option SV
  | true,some z=>some (if t=A then .tu [s, .d (.v (.bool true))] else .tu [z, .d (.v (.bool false))])
  | _,_=>none
@[simp] theorem assertC_some (A t:TypeId) (s z:SV):assertC P A t s true (some z)=some (if t=A then .tu [s, .d (.v (.bool true))] else .tu [z, .d (.v (.bool false))]):=(rfl)
@[simp] theorem evalAssert_ifc (A t:TypeId) (x:D):evalAssert P A true (.d (.ifc t x))=assertC P A t (.d x) (concrete P A) (zeroS P A):=by
  unfold evalAssert assertC
  cases concrete P A<;>cases zeroS P A<;>rfl
def intO:Option SV→Option Int
  | some (.d (.v (.int _ n)))=>some n
  | _=>none
@[simp] theorem intO_some (k:IntKind) (n:Int):intO (some (.d (.v (.int k n))))=some n:=(rfl)
@[simp] theorem bndS_none (d:Nat):bndS E d none=some (d:Int):=(rfl)
@[simp] theorem bndS_some (d:Nat) (x:Operand):bndS E d (some x)=intO (evalO E x):=by
  show (match evalO E x with | some (.d (.v (.int _ n)))=>some n | _=>none)=_
  rfl
def sliceRow (cs:List D) (n:Nat):Option (TypeId×Nat)→Option Int→Option Int→Option SV
  | some (_,sz),some l,some u=>onlyIf (0≤l∧l≤u∧u≤n) (.d (.ps ((cs.drop (l.toNat*sz)).take ((u.toNat - l.toNat)*sz)) (u.toNat - l.toNat)))
  | _,_,_=>none
@[simp] theorem sliceRow_some (cs:List D) (n e sz:Nat) (l u:Int):sliceRow cs n (some (e,sz)) (some l) (some u)=onlyIf (0≤l∧l≤u∧u≤n) (.d (.ps ((cs.drop (l.toNat*sz)).take ((u.toNat - l.toNat)*sz)) (u.toNat - l.toNat))):=(rfl)
@[simp] theorem evalSlice_ps (T:TypeId) (cs:List D) (n:Nat) (lo hi:Option Operand):evalSlice P E S T (.d (.ps cs n)) lo hi=sliceRow cs n (elemOf P T) (bndS E 0 lo) (bndS E n hi):=(rfl)
def sliceSk (b n sz:Nat):Option (TypeId×Nat)→Option Int→Option SV
  | some _,some u=>onlyIf (0≤u∧u≤n) (.sk b u.toNat sz)
  | _,_=>none
@[simp] theorem sliceSk_some (b n sz:Nat) (x:TypeId×Nat) (u:Int):sliceSk b n sz (some x) (some u)=onlyIf (0≤u∧u≤n) (.sk b u.toNat sz):=(rfl)
@[simp] theorem evalSlice_sk (T:TypeId) (b n sz:Nat) (hi:Option Operand):evalSlice P E S T (.sk b n sz) none hi=sliceSk b n sz (elemOf P T) (bndS E n hi):=by
  show (match elemOf P T,bndS E n hi with | some _,some u=>onlyIf (0≤u∧u≤n) (SV.sk b u.toNat sz) | _,_=>none)=_
  cases elemOf P T<;>cases bndS E n hi<;>rfl
def makeC (md:List Nat) (id:Nat) (dst:Option Nat) (l c:Int):Option (List SV×Nat×Nat)→Option (SV×Eff)
  | some (zs,sz,by_)=>if (dst.any fun d=>md.contains d)=true then onlyIf (l=0∧0<sz∧0≤c∧(by_:Int)*c≤281474976710656∧c≤9223372036854775807) (.tp id 0 [] 0, .tip id 0 sz)
    else if (dst.any fun d=>md.contains (d+1000000))=true then onlyIf (0≤l∧l≤c∧(by_:Int)*c≤281474976710656∧c≤9223372036854775807) (.sk id l.toNat sz, .new ((List.range (l.toNat*sz)).map fun j=>zs.getD (j % sz) (.d (.v undef))))
    else onlyIf (c=l∧0≤l∧(by_:Int)*l≤281474976710656∧l≤9223372036854775807) (.os id 0 l.toNat, .new ((List.range (l.toNat*sz)).map fun j=>zs.getD (j % sz) (.d (.v undef))))
  | none=>none
def madeS (zs:List SV) (sz n:Nat):List SV:=(List.range (n*sz)).map fun j=>zs.getD (j % sz) (.d (.v undef))
@[simp] theorem makeC_some (md:List Nat) (id:Nat) (dst:Option Nat) (l c:Int) (zs:List SV) (sz by_:Nat):makeC md id dst l c (some (zs,sz,by_))=if (dst.any fun d=>md.contains d)=true then onlyIf (l=0∧0<sz∧0≤c∧(by_:Int)*c≤281474976710656∧c≤9223372036854775807) (.tp id 0 [] 0, .tip id 0 sz)
    else if (dst.any fun d=>md.contains (d+1000000))=true then onlyIf (0≤l∧l≤c∧(by_:Int)*c≤281474976710656∧c≤9223372036854775807) (.sk id l.toNat sz, .new (madeS zs sz l.toNat))
    else onlyIf (c=l∧0≤l∧(by_:Int)*l≤281474976710656∧l≤9223372036854775807) (.os id 0 l.toNat, .new (madeS zs sz l.toNat)):=(rfl)
@[simp] theorem evalMake_int (id:Nat) (d:Option Nat) (T:TypeId) (k k':IntKind) (l c:Int):evalMake P S id d T (.d (.v (.int k l))) (.d (.v (.int k' c)))=makeC S.md id d l c (makeOf P T):=by
  unfold evalMake makeC
  cases makeOf P T<;>rfl
def appFl (md:List Nat) (id:Nat) (dst:Option Nat) (cs:List D) (n:Nat) (t:Nat→Option (List SV×Nat)):Option (List D×Nat)→Option (TypeId×Nat×Nat)→Option (SV×Eff)
  | some (ds,m),some (_,sz,by_)=>if m=0 then some (.fl cs n, .no) else
        if (dst.any fun d=>md.contains d)=true then onlyIf (cs.length=n*sz∧ds.length=m*sz∧appBound n m by_) (.os id 0 (n+m), .new ((cs++ds).map .d))
        else if (dst.any fun d=>md.contains (d+1000000))=true then onlyIf (cs.length=n*sz∧ds.length=m*sz∧appBound n m by_) (.sk id (n+m) sz, .new (cs.map .d++ds.map .d))
        else onlyIf (cs.length=n*sz∧ds.length=m*sz∧appBound n m by_) (.tp id 0 (cs++ds) (n+m), .tip id (n+m) sz)
  | none,some (_,sz,by_)=>appV (fun _=>none) id (.fl cs n) sz by_ (t sz)
  | _,_=>none
@[simp] theorem appFl_some (md : List Nat) (id : Nat) (dst : Option Nat) (cs ds : List D) (n m e sz by_ : Nat) (t : Nat → Option (List SV × Nat)) : appFl md id dst cs n t (some (ds, m)) (some (e, sz, by_)) = if m = 0 then some (.fl cs n, .no) else
        if (dst.any fun d=>md.contains d)=true then onlyIf (cs.length=n*sz∧ds.length=m*sz∧appBound n m by_) (.os id 0 (n+m), .new ((cs++ds).map .d))
        else if (dst.any fun d=>md.contains (d+1000000))=true then onlyIf (cs.length=n*sz∧ds.length=m*sz∧appBound n m by_) (.sk id (n+m) sz, .new (cs.map .d++ds.map .d))
        else onlyIf (cs.length=n*sz∧ds.length=m*sz∧appBound n m by_) (.tp id 0 (cs++ds) (n+m), .tip id (n+m) sz):=(rfl)
@[simp] theorem evalAppend_fl (id:Nat) (d:Option Nat) (T:TypeId) (cs:List D) (n:Nat) (t:SV):evalAppend P S id d T (.fl cs n) t=appFl S.md id d cs n (fun sz=>rowSV S.B sz t) (rowS t) (appOf P T):=by
  unfold evalAppend appFl
  cases rowS t with
  | none =>
    cases appOf P T with
    | none=>rfl
    | some x =>
      obtain⟨e,sz,by_⟩:=x
      show appV S.B id (.fl cs n) sz by_ (rowSV S.B sz t)=appV (fun _=>none) id (.fl cs n) sz by_ (rowSV S.B sz t)
      cases rowSV S.B sz t<;>rfl
  | some y=>cases appOf P T<;>rfl
def appTp (T:Nat→Option (Nat×Nat)) (i q:Nat) (cs:List D) (n:Nat):Option (List D×Nat)→Option (TypeId×Nat×Nat)→Option (SV×Eff)
  | some (ds,m),some (_,sz,by_)=>onlyIf (T i=some (q+n,sz)∧cs.length=n*sz∧ds.length=m*sz∧appBound n m by_) (.tp i q (cs++ds) (n+m), .tip i (q+(n+m)) sz)
  | _,_=>none
@[simp] theorem appTp_some (T:Nat→Option (Nat×Nat)) (i q:Nat) (cs ds:List D) (n m e sz by_:Nat):appTp T i q cs n (some (ds,m)) (some (e,sz,by_))=onlyIf (T i=some (q+n,sz)∧cs.length=n*sz∧ds.length=m*sz∧appBound n m by_) (.tp i q (cs++ds) (n+m), .tip i (q+(n+m)) sz):=(rfl)
@[simp] theorem evalAppend_tp (id:Nat) (d:Option Nat) (T i q:Nat) (cs:List D) (n:Nat) (t:SV):evalAppend P S id d T (.tp i q cs n) t=appTp S.T i q cs n (rowS t) (appOf P T):=by
  unfold evalAppend appTp
  cases rowS t with
  | none =>
    cases appOf P T with
    | none=>rfl
    | some x =>
      obtain⟨e,sz,by_⟩:=x
      show appV S.B id (.tp i q cs n) sz by_ (rowSV S.B sz t)=none
      cases rowSV S.B sz t<;>rfl
  | some y=>cases appOf P T<;>rfl
@[simp] theorem idxK_consS (k:ByteArray) (ks:List D) (s:ByteArray):idxK (.v (.string k)::ks) s=if k=s then some (some 0) else (idxK ks s).map (·.map (·+1)):=(rfl)
theorem lookS_at {T e:TypeId}{ks:List D}{vs:List SV}{s:ByteArray}{ok:Bool}{j:Nat}{v:SV} (hT:Sh.mapOf P T=some e) (hi:idxK ks s=some (some j)) (hv:vs[j]?=some v):lookS P T ks vs s ok=some (if ok then .tu [v, .d (.v (.bool true))] else v):=by
  simp[lookS,hT,hi,hv,lookR]
theorem lookS_none {T e:TypeId}{ks:List D}{vs:List SV}{s:ByteArray}{ok:Bool}{z:SV} (hT:Sh.mapOf P T=some e) (hi:idxK ks s=some none) (hz:zeroS P e=some z):lookS P T ks vs s ok=some (if ok then .tu [z, .d (.v (.bool false))] else z):=by
  simp[lookS,hT,hi,hz,lookR]
theorem updK_none {ks:List D}{vs:List SV}{s:ByteArray}{v:SV} (hi:idxK ks s=some none):updK ks vs s v=some (.mc (ks++[.v (.string s)]) (vs++[v])):=by simp[updK,hi]
theorem idxK_map {α:Type} (f:α→ByteArray) (s:ByteArray):∀ l:List α,idxK (l.map fun x=>.v (.string (f x))) s=some (l.findIdx? fun x=>decide (f x=s))
  | []=>rfl
  | x::r=>by
    simp only[List.map_cons,idxK_consS,idxK_map f s r,Option.map_some,List.findIdx?_cons]
    by_cases h:f x=s<;>simp[h]
@[simp] theorem binS_add (T:TypeId) (k:IntKind) (a b:Int):binS P .add T (.int k a) (.int k b)=some (.int k (k.wrap (a+b))):=by simp[binS,isShift,intBin]
@[simp] theorem binS_sub (T:TypeId) (k:IntKind) (a b:Int):binS P .sub T (.int k a) (.int k b)=some (.int k (k.wrap (a - b))):=by simp[binS,isShift,intBin]
@[simp] theorem binS_eql (T:TypeId) (k:IntKind) (a b:Int):binS P .eql T (.int k a) (.int k b)=some (.bool (decide (a=b))):=by
  have:(a == b)=decide (a=b):=by rw[Bool.eq_iff_iff];simp
  simp[binS,isShift,intBin,this]
@[simp] theorem binS_neq (T:TypeId) (k:IntKind) (a b:Int):binS P .neq T (.int k a) (.int k b)=some (.bool (!decide (a=b))):=by
  have:(a == b)=decide (a=b):=by rw[Bool.eq_iff_iff];simp
  simp[binS,isShift,intBin,bne,this]
@[simp] theorem binS_lss (T:TypeId) (k:IntKind) (a b:Int):binS P .lss T (.int k a) (.int k b)=some (.bool (decide (a<b))):=by simp[binS,isShift,intBin]
@[simp] theorem binS_leq (T:TypeId) (k:IntKind) (a b:Int):binS P .leq T (.int k a) (.int k b)=some (.bool (decide (a≤b))):=by simp[binS,isShift,intBin]
@[simp] theorem binS_gtr (T:TypeId) (k:IntKind) (a b:Int):binS P .gtr T (.int k a) (.int k b)=some (.bool (decide (b<a))):=by simp[binS,isShift,intBin]
@[simp] theorem binS_geq (T:TypeId) (k:IntKind) (a b:Int):binS P .geq T (.int k a) (.int k b)=some (.bool (decide (b≤a))):=by simp[binS,isShift,intBin]
theorem toList_eq {a b:ByteArray}:(a.toList == b.toList)=decide (a=b):=by
  have inj:a.toList=b.toList↔a=b:=by
    constructor
    · intro h
      have e:∀ x:ByteArray,x.toList=x.data.toList:=fun x=>Go.ByteArray.toList_eq x
      rw[e,e] at h
      cases a;cases b;simp only at h
      congr 1
      exact Array.ext' h
    · rintro rfl;rfl
  by_cases h:a=b
  · subst h;simp
  · rw[decide_eq_false h]
    simp only[beq_eq_false_iff_ne,ne_eq,inj]
    exact h
@[simp] theorem binS_seql (T:TypeId) (a b:ByteArray):binS P .eql T (.string a) (.string b)=some (.bool (decide (a=b))):=by simp[binS,strBin,toList_eq]
@[simp] theorem binS_sneq (T:TypeId) (a b:ByteArray):binS P .neq T (.string a) (.string b)=some (.bool (!decide (a=b))):=by simp[binS,strBin,toList_eq]
@[simp] theorem binS_sadd (T:TypeId) (a b:ByteArray):binS P .add T (.string a) (.string b)=if a.size+b.size≤9223372036854775807 then some (.string (a++b)) else none:=by simp[binS,strBin]
@[simp] theorem unS_not (b:Bool):unS .not (.bool b)=some (.bool (!b)):=(rfl)
@[simp] theorem resS_nil:resS P E S []=some (.tu []):=(rfl)
@[simp] theorem resS_one (x:ResultVar):resS P E S [x]=resOne P E S x:=by
  simp only[resS,resList]
  cases resOne P E S x<;>rfl
@[simp] theorem resS_two (x y:ResultVar):resS P E S [x,y]=(consO (resOne P E S x) (consO (resOne P E S y) (some []))).map .tu:=by
  simp only[resS,resList]
  cases resOne P E S x<;>cases resOne P E S y<;>rfl
@[simp] theorem resOne_tmp (t:Nat):resOne P E S (.tmp t)=evalO E (.tmp t):=(rfl)
def cellE (P:Program) (T:TypeId) (B:Nat→Option (List SV)):Option SV→Option SV
  | some (.op b off)=>match B b with
    | some cs=>loadS P T cs off
    | none=>none
  | _=>none
def cellB (P:Program) (T:TypeId) (off:Nat):Option (List SV)→Option SV
  | some cs=>loadS P T cs off
  | none=>none
@[simp] theorem cellB_some (T off:Nat) (cs:List SV):cellB P T off (some cs)=loadS P T cs off:=(rfl)
@[simp] theorem cellE_op (T:TypeId) (B:Nat→Option (List SV)) (b off:Nat):cellE P T B (some (.op b off))=cellB P T off (B b):=(rfl)
@[simp] theorem resOne_cell (t T:Nat):resOne P E S (.cell t T)=cellE P T S.B (evalO E (.tmp t)):=(rfl)
variable {B:Nat→Option (List SV)}
@[simp] theorem frz_d (k:Nat) (x:D):frz B (k+1) (.d x)=some x:=(rfl)
@[simp] theorem frz_fl (k:Nat) (cs:List D) (n:Nat):frz B (k+1) (.fl cs n)=some (.ps cs n):=(rfl)
@[simp] theorem frz_tp (k i q:Nat) (cs:List D) (n:Nat):frz B (k+1) (.tp i q cs n)=some (.ps cs n):=(rfl)
@[simp] theorem frz_ag (k:Nat) (cs:List SV):frz B (k+1) (.ag cs)=(mapO (frz B k) cs).map .agg:=(rfl)
@[simp] theorem frz_tu (k:Nat) (cs:List SV):frz B (k+1) (.tu cs)=(mapO (frz B k) cs).map .tup:=(rfl)
@[simp] theorem frz_fc (k:Nat) (t:TypeId) (x:SV):frz B (k+1) (.fc t x)=(frz B k x).map (.ifc t):=(rfl)
def frzP (B:Nat→Option (List SV)) (k off:Nat):Option (List SV)→Option D
  | some cs=>(mapO (frz B k) cs).map fun ds=>.pp ds off
  | none=>none
@[simp] theorem frzP_some (k off:Nat) (cs:List SV):frzP B k off (some cs)=(mapO (frz B k) cs).map fun ds=>.pp ds off:=(rfl)
@[simp] theorem frz_op (k b off:Nat):frz B (k+1) (.op b off)=frzP B k off (B b):=(rfl)
def frzS (B:Nat→Option (List SV)) (k off n:Nat):Option (List SV)→Option D
  | some cs=>(mapO (frz B k) cs).map fun ds=>.ps (ds.drop off) n
  | none=>none
@[simp] theorem frzS_some (k off n:Nat) (cs:List SV):frzS B k off n (some cs)=(mapO (frz B k) cs).map fun ds=>.ps (ds.drop off) n:=(rfl)
@[simp] theorem frz_os (k b off n:Nat):frz B (k+1) (.os b off n)=frzS B k off n (B b):=(rfl)
@[simp] theorem frz_fn (k:Nat) (f:Fn) (xs ys:List SV):frz B (k+1) (.fn f xs ys)=fnO f (mapO (frz B k) xs) (mapO (frz B k) ys):=by
  simp only[frz]
  cases mapO (frz B k) xs<;>cases mapO (frz B k) ys<;>rfl
def frzMv (B:Nat→Option (List SV)) (k:Nat):Option (List SV)→Option D
  | some [.mc ks vs]=>(mapO (frz B k) vs).map (.mp ks)
  | _=>none
@[simp] theorem frzMv_some (k:Nat) (ks:List D) (vs:List SV):frzMv B k (some [.mc ks vs])=(mapO (frz B k) vs).map (.mp ks):=(rfl)
@[simp] theorem frz_mv (k b:Nat):frz B (k+1) (.mv b)=frzMv B k (B b):=by
  simp only[frz,frzMv]
  rfl
@[simp] theorem mapO_nil {α β:Type} (f:α→Option β):mapO f []=some []:=(rfl)
@[simp] theorem mapO_cons {α β:Type} (f:α→Option β) (x:α) (r:List α):mapO f (x::r)=consO (f x) (mapO f r):=by
  simp only[mapO,consO]
  split<;>simp_all
@[simp] theorem mapO_d (k:Nat) (l:List D):mapO (frz B (k+1)) (l.map .d)=some l:=by
  have:=mapO_map (f:=frz B (k+1)) (g:=SV.d) (k:=fun x=>x) (fun x=>rfl) l
  simpa using this
@[simp] theorem mapO_dcomp {α:Type} (k:Nat) (f:α→D) (l:List α):mapO (frz B (k+1)) (l.map (SV.d∘f))=some (l.map f):=mapO_map (f:=frz B (k+1)) (g:=SV.d∘f) (k:=f) (fun x=>rfl) l
end
@[simp] theorem le_add2 (n a0 a1:Nat):n≤n+a0+a1:=by omega
@[simp] theorem le_add3 (n a0 a1 a2:Nat):n≤n+a0+a1+a2:=by omega
@[simp] theorem le_add4 (n a0 a1 a2 a3:Nat):n≤n+a0+a1+a2+a3:=by omega
@[simp] theorem le_add5 (n a0 a1 a2 a3 a4:Nat):n≤n+a0+a1+a2+a3+a4:=by omega
@[simp] theorem le_add6 (n a0 a1 a2 a3 a4 a5:Nat):n≤n+a0+a1+a2+a3+a4+a5:=by omega
@[simp] theorem le_add7 (n a0 a1 a2 a3 a4 a5 a6:Nat):n≤n+a0+a1+a2+a3+a4+a5+a6:=by omega
end Go.Sh
namespace Go.Sh
open Go.RowKit (Below)
mutual
def SV.shift (k:Nat):SV→SV
  | .op b off=>.op (k+b) off
  | .os b off n=>.os (k+b) off n
  | .ag cs=>.ag (shiftS k cs)
  | .tu cs=>.tu (shiftS k cs)
  | .fc t x=>.fc t (SV.shift k x)
  | .fn f xs ys=>.fn f (shiftS k xs) (shiftS k ys)
  | .sk b n sz=>.sk (k+b) n sz
  | .ls cs n=>.ls (shiftS k cs) n
  | s=>s
def shiftS (k:Nat):List SV→List SV
  | []=>[]
  | s::r=>SV.shift k s::shiftS k r
end
theorem shiftS_eq (k:Nat):∀ cs:List SV,shiftS k cs=cs.map (SV.shift k)
  | []=>rfl
  | s::r=>by rw[shiftS,shiftS_eq k r];rfl
theorem shift_cell (k:Nat) (s:SV):(s.shift k).cell=s.cell:=by cases s<;>rfl
@[simp] theorem shift_d (k:Nat) (x:D):(SV.d x).shift k=.d x:=by simp[SV.shift]
@[simp] theorem shift_fl (k:Nat) (cs:List D) (n:Nat):(SV.fl cs n).shift k=.fl cs n:=by simp[SV.shift]
@[simp] theorem shift_os (k b off n:Nat):(SV.os b off n).shift k=.os (k+b) off n:=by simp[SV.shift]
@[simp] theorem shift_op (k b off:Nat):(SV.op b off).shift k=.op (k+b) off:=by simp[SV.shift]
@[simp] theorem shift_ag (k:Nat) (cs:List SV):(SV.ag cs).shift k=.ag (cs.map (SV.shift k)):=by simp[SV.shift,shiftS_eq]
@[simp] theorem shift_tu (k:Nat) (cs:List SV):(SV.tu cs).shift k=.tu (cs.map (SV.shift k)):=by simp[SV.shift,shiftS_eq]
def ghB (Bx:Nat→Option Nat):Gh:=⟨Bx,fun _=>none,fun _=>0,fun _=>none⟩
theorem VR.shiftTo {Bx:Nat→Option Nat}{w:World}{G:Gh}{k:Nat} (h:∀ b B,Bx b=some B→G.box (k+b)=some B) {s:SV}{u:Value} (hv:VR (ghB Bx) w s u):VR G w (s.shift k) u:=by
  induction hv with
  | d h'=>rw[shift_d];exact .d (h'.keep (fun _=>Nat.zero_le _) (fun _ _ _=>rfl) (fun _ _ _ _ h=>h))
  | fl h' hc=>rw[shift_fl];exact .fl (h'.keep (fun _=>Nat.zero_le _) (fun _ _ _=>rfl) (fun _ _ _ _ h=>h)) hc
  | tp _ ht _ _=>exact absurd ht (by simp[ghB])
  | op hb=>rw[shift_op];exact .op (h _ _ hb)
  | os hb hn=>rw[shift_os];exact .os (h _ _ hb) hn
  | ag hl hk hv ih=>rw[shift_ag];exact .ag (by simpa using hl) (fun j hj=>by simp only[List.getElem_map,shift_cell];exact hk j (by simpa using hj)) (fun j hj hj'=>by simp only[List.getElem_map];exact ih j (by simpa using hj) hj')
  | tu hl hv ih=>rw[shift_tu];exact .tu (by simpa using hl) (fun j hj hj'=>by simp only[List.getElem_map];exact ih j (by simpa using hj) hj')
  | fc h' ih=>simp only[SV.shift];exact .fc ih
  | fn hl hm hv hu ih1 ih2 =>
    simp only[SV.shift,shiftS_eq]
    exact .fn (by simpa using hl) (by simpa using hm) (fun j hj hj'=>by simp only[List.getElem_map];exact ih1 j (by simpa using hj) hj') (fun j hj hj'=>by simp only[List.getElem_map];exact ih2 j (by simpa using hj) hj')
  | ls us hn hc hk hv ih =>
    simp only[SV.shift,shiftS_eq]
    exact .ls us hn (fun j hj=>absurd (hc j (by simpa using hj)).1 (Nat.not_lt_zero _)) (fun j hj=>by simp only[List.getElem_map,shift_cell];exact hk j (by simpa using hj)) (fun j hj=>by simp only[List.getElem_map];exact ih j (by simpa using hj))
  | mv hb=>exact absurd hb (by simp[ghB])
  | iv hb=>exact absurd hb (by simp[ghB])
  | yv hb=>exact absurd hb (by simp[ghB])
  | sk hb hn hc hr=>simp only[SV.shift];exact .sk (h _ _ hb) hn hc hr
def OwnB (Bx:Nat→Option Nat) (lo:Nat) (w:World) (b:Nat) (cs:List SV):Prop :=
  ∃ (X:Nat) (us:Array Value) (T:TypeId×(Nat×Nat)),Bx b=some X∧w.heap[X]?=some (.cells us T.1 T.2)∧cs.length≤us.size∧unf T.2 us.size∧lo≤X∧∀ j (h:j<cs.length) (h':j<us.size),(cs[j]).cell=true∧VR (ghB Bx) w cs[j] us[j]
def FCall (P:Program) (gl:Nat→Option D) (f:FuncId) (args:List D) (r:SV) (K:Nat) (B:Nat→Option (List SV)):Prop :=
  FnOk P f ∧
  ∀ (m:Nat→Nat) (w:World) (vals:List Value),(∀ B,w.heap.size≤B→m B=0)→GOK gl m w→vals.length=args.length→(∀ j (h:j<args.length) (h':j<vals.length),PV m w args[j] vals[j]) →
    Calls P f vals.toArray w fun e w'=>∃ u Bx,e=.returned u∧VR (ghB Bx) w' r u∧(∀ b X,Bx b=some X→b<K)∧(∀ b cs,B b=some cs→OwnB Bx w.heap.size w' b cs) ∧
      (∀ b b' X,B b≠none→B b'≠none→Bx b=some X→Bx b'=some X→b=b')∧Below w.heap.size w w'
def addS (S:St) (K:Nat) (B:Nat→Option (List SV)):St :=
  { S with B:=fun x=>if x<S.nx then S.B x else if x<S.nx+K then (B (x - S.nx)).map (·.map (SV.shift S.nx)) else none,nx:=S.nx+K }
@[simp] theorem addS_nx (S:St) (K:Nat) (B:Nat→Option (List SV)):(addS S K B).nx=S.nx+K:=(rfl)
@[simp] theorem addS_B (S:St) (K:Nat) (B:Nat→Option (List SV)) (x:Nat):(addS S K B).B x=if x<S.nx then S.B x else if x<S.nx+K then (B (x - S.nx)).map (·.map (SV.shift S.nx)) else none:=(rfl)
theorem addS_keeps (S:St) (K:Nat) (B:Nat→Option (List SV)):Keeps S (addS S K B):=⟨rfl,rfl,rfl,Nat.le_add_right _ _⟩
section
variable {P:Program}{E:Env}{S:St}
theorem frzM_new {m0:Nat→Nat}{w0:World}{G:Gh}{F:Nat→Prop}{a:Act}{w:World} (h:Rel m0 w0 G E S F a w):∀ B,w.heap.size≤B→frzM S G B=0:=fun B hB=>(frzM_low h (.inr hB)).trans (h.new B hB)
theorem frzM_gok {m0:Nat→Nat}{w0:World}{G:Gh}{F:Nat→Prop}{a:Act}{w:World} (h:Rel m0 w0 G E S F a w):GOK S.gl (frzM S G) w :=
  ⟨fun g y hg=>(h.glob g y hg).keep (frzM_le h) (fun _ _ _=>rfl) (fun _ _ _ _ h=>h),fun hg=>frzM_ok h hg⟩
theorem called_same {m0:Nat→Nat}{w0:World}{G:Gh}{F:Nat→Prop}{a:Act}{w w':World} (hr:Rel m0 w0 G E S F a w) (hb:Below w.heap.size w w'):Rel m0 w0 G E S F a w'∧Fut G w G w' :=
  hr.called (m':=G.mark) (fun _ _=>rfl) (fun B hB=>hr.new B (Nat.le_trans hb.size hB)) (fun _ B hB hpos=>by rw[hr.new B hB] at hpos;exact absurd hpos (Nat.lt_irrefl _)) hb
theorem LCall.ofP {f:FuncId}{ss:List SV}{ds:List D}{x:Value} (h:PCall P S.gl f ds (.v x)) {k:Nat} (hd:mapO (frz S.B k) ss=some ds):LCall P f ss S (.d (.v x)) S:=by
  refine⟨h.1,Keeps.refl S,fun m0 w0 G E F a w vals hr hF hl hv=>?_⟩
  obtain⟨d1,d2⟩:=mapO_get hd
  refine (h.2 (frzM S G) w vals (frzM_new hr) (frzM_gok hr) (by omega) (fun j hj hj'=>frz_ok hr (d2 j (by omega) hj) (hv j (by omega) hj'))).mono ?_
  rintro e w' ⟨u,m',rfl,h1,h2,h3,h4,_⟩
  obtain⟨k1,k2⟩:=called_same hr h4
  cases h1 with
  | v hx=>exact⟨x,G,rfl, .d (.v hx),k1.less (fun b hb=>hb.1),k2⟩
theorem LCall.ofF {f:FuncId}{ss:List SV}{ds:List D}{r:SV}{K:Nat}{B:Nat→Option (List SV)} (h:FCall P S.gl f ds r K B) {k:Nat} (hd:mapO (frz S.B k) ss=some ds):LCall P f ss S (r.shift S.nx) (addS S K B):=by
  refine⟨h.1,addS_keeps S K B,fun m0 w0 G E F a w vals hr hF hl hv=>?_⟩
  obtain⟨d1,d2⟩:=mapO_get hd
  refine (h.2 (frzM S G) w vals (frzM_new hr) (frzM_gok hr) (by omega) (fun j hj hj'=>frz_ok hr (d2 j (by omega) hj) (hv j (by omega) hj'))).mono ?_
  rintro e w' ⟨u,Bx,rfl,hu,hBx,hB,hinj,hbel⟩
  obtain⟨k1,k2⟩:=called_same hr hbel
  have hold:∀ b X,G.box b=some X→b<S.nx:=fun b X hb=>by
    rcases Nat.lt_or_ge b S.nx with h1 | h1
    · exact h1
    · rw[(hr.fresh b (hF b h1)).1] at hb;cases hb
  let G2:Gh:={ G with box:=fun b=>if b<S.nx then G.box b else Bx (b - S.nx) }
  have g2new:∀ b X,Bx b=some X→G2.box (S.nx+b)=some X:=fun b X hb=>by
    show (if S.nx+b<S.nx then _ else _)=_
    rw[if_neg (by omega),Nat.add_sub_cancel_left];exact hb
  have g2old:∀ b X,G.box b=some X→G2.box b=some X:=fun b X hb=>by
    show (if b<S.nx then _ else _)=_
    rw[if_pos (hold b X hb)];exact hb
  have f:Fut G w' G2 w':=Fut.mk' (.refl w') g2old (fun i B v k cap ht=>⟨B,v,k,cap,ht,Nat.le_refl _,fun _=>⟨rfl,rfl,rfl,rfl⟩⟩) (fun _=>Nat.le_refl _) (fun _ _ _=>rfl) (fun _ _ h=>h)
  have oldO:∀ b X,G.obj b=some X→b<S.nx:=fun b X hb=>by
    rcases Nat.lt_or_ge b S.nx with h1 | h1
    · exact h1
    · rw[hr.more.ofresh b (hF b h1)] at hb;cases hb
  have oldB:∀ b cs,(addS S K B).B b=some cs→b<S.nx→S.B b=some cs:=fun b cs hb hlt=>by simpa[hlt] using hb
  have newB:∀ b cs,(addS S K B).B b=some cs→¬ b<S.nx→∃ b' cs',b=S.nx+b'∧B b'=some cs'∧cs=cs'.map (SV.shift S.nx):=fun b cs hb hlt=>by
    simp only[addS_B,if_neg hlt] at hb
    split at hb
    · simp only[Option.map_eq_some_iff] at hb
      obtain⟨cs',h1,h2⟩:=hb
      exact⟨b - S.nx,cs',by omega,h1,h2.symm⟩
    · cases hb
  have oldX:∀ b X,b<S.nx→(addS S K B).B b≠none→G2.box b=some X→X<w.heap.size:=fun b X hlt hb hg=>by
    obtain⟨cs,hcs⟩:=Option.ne_none_iff_exists'.1 hb
    have hgb:G.box b=some X:=by have:=hg;simp only[G2,if_pos hlt] at this;exact this
    obtain⟨Y,us,T,g1,g2,_⟩:=hr.box b cs (oldB b cs hcs hlt) (hr.boxOf (oldB b cs hcs hlt) hgb)
    have:G2.box b=some Y:=g2old b Y g1
    rw[hg] at this;cases this
    exact lt_of_heap g2
  have newX:∀ b X,¬ b<S.nx→(addS S K B).B b≠none→G2.box b=some X→w.heap.size≤X:=fun b X hlt hb hg=>by
    obtain⟨cs,hcs⟩:=Option.ne_none_iff_exists'.1 hb
    obtain⟨b',cs',rfl,h1,h2⟩:=newB b cs hcs hlt
    obtain⟨Y,us,T,g1,g2,g3,g4,g5,_⟩:=hB b' cs' h1
    have:=g2new b' Y g1
    rw[hg] at this;cases this
    exact g5
  refine⟨u,G2,rfl,hu.shiftTo g2new,⟨fun k s hk=>(k1.env k s hk).fut f,k1.size,k1.few,fun b cs hb ho=>?_,fun b b' X hb hb' e1 e2=>?_,k1.tip,k1.tinj,k1.tlt,fun i b X v k c hi hb e=>?_,fun b hb=>?_,k1.new,k1.low,k1.below,k1.defers,k1.glob,k1.more.keep f (.refl w') (fun b cs X hb ho=>oldB b cs hb (oldO b X ho)) rfl (fun b X ho=>if_pos (oldO b X ho)) rfl (fun _ hb=>hb.1) rfl⟩,k2.trans f⟩
  · by_cases hlt:b<S.nx
    · obtain⟨X,us,T,g1,g2,g3,g4,g5,gu0,g6⟩:=k1.box b cs (oldB b cs hb hlt) ho
      exact⟨X,us,T,g2old b X g1,g2,g3,g4,g5,gu0,fun j hj hj'=>⟨(g6 j hj hj').1,(g6 j hj hj').2.fut f⟩⟩
    · obtain⟨b',cs',rfl,h1,rfl⟩:=newB b cs hb hlt
      obtain⟨X,us,T,g1,g2,g3,gu0,g5,g6⟩:=hB b' cs' h1
      refine⟨X,us,T,g2new b' X g1,g2,by simpa using g3,hr.new X g5,Nat.le_trans hr.below.size g5,gu0,fun j hj hj'=>?_⟩
      have hj2:j<cs'.length:=by simpa using hj
      simp only[List.getElem_map,shift_cell]
      exact⟨(g6 j hj2 hj').1,(g6 j hj2 hj').2.shiftTo g2new⟩
  · by_cases hlt:b<S.nx
    · by_cases hlt':b'<S.nx
      · have e3:G.box b=some X:=by have:=e1;simp only[G2,if_pos hlt] at this;exact this
        have e4:G.box b'=some X:=by have:=e2;simp only[G2,if_pos hlt'] at this;exact this
        have nb:∀ b,b<S.nx→(addS S K B).B b≠none→S.B b≠none:=fun b hl hn=>by simpa[hl] using hn
        exact hr.inj b b' X (nb b hlt hb) (nb b' hlt' hb') e3 e4
      · have:=oldX b X hlt hb e1;have:=newX b' X hlt' hb' e2;omega
    · by_cases hlt':b'<S.nx
      · have:=oldX b' X hlt' hb' e2;have:=newX b X hlt hb e1;omega
      · obtain⟨cs,hcs⟩:=Option.ne_none_iff_exists'.1 hb
        obtain⟨cs2,hcs2⟩:=Option.ne_none_iff_exists'.1 hb'
        obtain⟨c,cs',rfl,h1,_⟩:=newB b cs hcs hlt
        obtain⟨c',cs2',rfl,h2,_⟩:=newB b' cs2 hcs2 hlt'
        have e3:Bx c=some X:=by have:=e1;simp only[G2,if_neg hlt,Nat.add_sub_cancel_left] at this;exact this
        have e4:Bx c'=some X:=by have:=e2;simp only[G2,if_neg hlt',Nat.add_sub_cancel_left] at this;exact this
        rw[hinj c c' X (by rw[h1];simp) (by rw[h2];simp) e3 e4]
  · by_cases hlt:b<S.nx
    · have e3:G.box b=some X:=by have:=e;simp only[G2,if_pos hlt] at this;exact this
      exact hr.tbox i b X v k c hi (by simpa[hlt] using hb) e3
    · have:=newX b X hlt hb e
      have:=hr.tlt i X v k c hi
      omega
  · obtain⟨h1,h2⟩:=hr.fresh b hb.1
    refine⟨?_,h2⟩
    have hnb:=hb.2
    simp only[addS_nx] at hnb
    show (if b<S.nx then G.box b else Bx (b - S.nx))=none
    split
    · exact h1
    · cases hx:Bx (b - S.nx) with
      | none=>rfl
      | some X=>have:=hBx _ _ hx;omega
open Classical in
noncomputable def frzV (S:St) (G:Gh) (X:Nat):Nat:=if h:∃ b cs,S.B b=some cs∧G.box b=some X∧G.obj b=none then h.choose_spec.choose.length else 0
end
end Go.Sh
namespace Go.Sh
open Go.RowKit (Below)
inductive Like (T:Nat→Option (Nat×Nat)) (M:List (Nat×Nat×Bool)):SV→SV→Prop
  | d (x:Value):Like T M (.d (.v x)) (.d (.v x))
  | fl:Like T M (.fl [] 0) (.fl [] 0)
  | tp {i k n sz:Nat} {cs:List D} (hm:(k,i,true)∈M) (hn:0<n) (ht:T i=some (n,sz)):Like T M (.tp i 0 cs n) (.os k 0 n)
  | os {b k off n:Nat} (hm:(k,b,false)∈M):Like T M (.os b off n) (.os k off n)
  | op {b k off:Nat} (hm:(k,b,false)∈M):Like T M (.op b off) (.op k off)
  | sk {b k n sz:Nat} (hm:(k,b,false)∈M):Like T M (.sk b n sz) (.sk k n sz)
  | ag {cs cs':List SV} (hl:cs'.length=cs.length) (h:∀ j (h:j<cs.length) (h':j<cs'.length),Like T M cs[j] cs'[j]):Like T M (.ag cs) (.ag cs')
  | tu {cs cs':List SV} (hl:cs'.length=cs.length) (h:∀ j (h:j<cs.length) (h':j<cs'.length),Like T M cs[j] cs'[j]):Like T M (.tu cs) (.tu cs')
theorem Like.cell {T:Nat→Option (Nat×Nat)}{M:List (Nat×Nat×Bool)}{s t:SV} (h:Like T M s t):t.cell=s.cell:=by cases h<;>rfl
theorem nodup_inj {α:Type}{l:List α} (h:l.Nodup) {i j:Nat} (hi:i<l.length) (hj:j<l.length) (e:l[i]=l[j]):i=j:=by
  have hp:=List.pairwise_iff_getElem.1 h
  rcases Nat.lt_trichotomy i j with h1 | h1 | h1
  · exact absurd e (hp i j hi hj h1)
  · exact h1
  · exact absurd e.symm (hp j i hj hi h1)
inductive Tip (i:Nat) (cs:List D) (n:Nat):SV→Prop
  | here:Tip i cs n (.tp i 0 cs n)
  | ag {l:List SV} {j:Nat} (hj:j<l.length) (h:Tip i cs n l[j]):Tip i cs n (.ag l)
  | tu {l:List SV} {j:Nat} (hj:j<l.length) (h:Tip i cs n l[j]):Tip i cs n (.tu l)
theorem Tip.vr {G:Gh}{w:World}{i n:Nat}{cs:List D}{s:SV} (h:Tip i cs n s):∀ {u:Value},VR G w s u→∃ u',VR G w (.tp i 0 cs n) u':=by
  induction h with
  | here=>intro u hu;exact⟨u,hu⟩
  | ag hj h ih =>
    intro u hu
    cases hu with
    | ag hl hk hv=>exact ih (hv _ hj (by omega))
  | tu hj h ih =>
    intro u hu
    cases hu with
    | tu hl hv=>exact ih (hv _ hj (by omega))
def bxOf (G:Gh) (M:List (Nat×Nat×Bool)) (k:Nat):Option Nat :=
  match M.find? (fun p=>p.1 == k) with
  | some (_,b,false)=>G.box b
  | some (_,i,true)=>(G.tip i).map (·.1)
  | none=>none
structure Fine (M:List (Nat×Nat×Bool)) (K:Nat):Prop where
  new:(M.map (·.1)).Nodup
  old:(M.map (·.2)).Nodup
  lt:∀ p∈M,p.1<K
theorem find_mem {M:List (Nat×Nat×Bool)} (hd:(M.map (·.1)).Nodup) {p:Nat×Nat×Bool} (hp:p∈M):M.find? (fun q=>q.1 == p.1)=some p:=by
  induction M with
  | nil=>simp at hp
  | cons q M ih =>
    simp only[List.map_cons,List.nodup_cons] at hd
    rcases List.mem_cons.1 hp with rfl | hp
    · simp
    · have:q.1≠p.1:=fun e=>hd.1 (e▸List.mem_map.2 ⟨p,hp,rfl⟩)
      rw[List.find?_cons_of_neg (by simpa using this)]
      exact ih hd.2 hp
theorem bx_box {G:Gh}{M:List (Nat×Nat×Bool)}{K k b:Nat} (hf:Fine M K) (h:(k,b,false)∈M):bxOf G M k=G.box b:=by
  have:=find_mem hf.new h
  unfold bxOf;rw[this]
theorem bx_tip {G:Gh}{M:List (Nat×Nat×Bool)}{K k i:Nat} (hf:Fine M K) (h:(k,i,true)∈M):bxOf G M k=(G.tip i).map (·.1):=by
  have:=find_mem hf.new h
  unfold bxOf;rw[this]
section
variable {P:Program}{E:Env}{S:St}
theorem tip_inv {m0:Nat→Nat}{w0:World}{G:Gh}{F:Nat→Prop}{a:Act}{w:World} (h:Rel m0 w0 G E S F a w) {i n sz:Nat}{cs:List D}{u:Value} (hn:0<n) (hT:S.T i=some (n,sz)) (hu:VR G w (.tp i 0 cs n) u) :
    ∃ X c us T fr,G.tip i=some (X,0,n,c)∧u=.slice (some ⟨X,0,none⟩) n c∧n≤c∧w.heap[X]?=some (.cells us T fr)∧unf fr us.size∧w0.heap.size≤X∧cs.length≤us.size∧∀ j (h:j<cs.length) (h':j<us.size),(cs[j]).cell=true∧PV G.mark w cs[j] us[j]:=by
  obtain⟨B,v,us,T,cap,fr,g1,g2,g3,g4,g5,g6,g7,g8,g9⟩:=h.tip i n sz hT
  cases hu with
  | tp hp ht hq he =>
    rename_i Y o c B' v' k' cap'
    rw[g1] at ht
    simp only[Option.some.injEq,Prod.mk.injEq] at ht
    obtain⟨rfl,rfl,rfl,rfl⟩:=ht
    obtain⟨e1,e2,e3,sz',e4,e5,e6⟩:=he (by omega)
    subst e1
    obtain⟨us',hl,hc,hv⟩:=hp.cells'
    have hnc:n≤c:=by
      obtain⟨_,_,e,hle⟩:=hp.slice_inv
      cases e;exact hle
    have hv0:v=0:=by omega
    subst hv0
    have ho:o=0:=by have:=e4 (by omega);simpa using this
    subst ho
    have hcap:cap=c:=by omega
    subst hcap
    have hcell:∀ j (hj:j<us'.length),us[j]?=some us'[j]:=fun j hj=>by
      have:=(hc j us'[j] (List.getElem?_eq_getElem hj)).2
      rw[Nat.zero_add,cell_of_heap g2] at this
      exact this
    refine⟨B,cap,us,T,fr,g1,rfl,hnc,g2,g3,g4,?_,fun j hj hj'=>?_⟩
    · rcases Nat.eq_zero_or_pos cs.length with h0 | h0
      · omega
      · have:=hcell (cs.length - 1) (by omega)
        have:=(Array.getElem?_eq_some_iff.1 this).1
        omega
    · have h1:=hcell j (by omega)
      have h2:us[j]=us'[j]:=by rw[Array.getElem?_eq_getElem hj'] at h1;exact Option.some.inj h1
      rw[h2];exact hv j hj (by omega)
theorem Like.vr {m0:Nat→Nat}{w0:World}{G:Gh}{F:Nat→Prop}{a:Act}{w:World} (h:Rel m0 w0 G E S F a w) {M:List (Nat×Nat×Bool)}{K:Nat} (hf:Fine M K) {s t:SV} (hl:Like S.T M s t):∀ {u:Value},VR G w s u→VR (ghB (bxOf G M)) w t u:=by
  induction hl with
  | d x =>
    intro u hu
    cases hu with
    | d hp=>cases hp with
      | v hx=>exact .d (.v hx)
  | fl =>
    intro u hu
    cases hu with
    | fl hp hc=>cases hp with
      | nil=>exact .fl .nil hc
      | pz hs=>exact .fl (.pz hs) hc
      | ps us hn hcc hk hv=>exact .fl (.ps us hn (fun j hj=>by simp at hj) (fun j hj=>by simp at hj) (fun j hj=>by simp at hj)) hc
  | tp hm hn ht =>
    intro u hu
    obtain⟨X,c,us,T,fr,g1,rfl,g2,_⟩:=tip_inv h hn ht hu
    exact .os (by show bxOf G M _=_;rw[bx_tip hf hm,g1];rfl) g2
  | os hm =>
    intro u hu
    cases hu with
    | os hb hn=>exact .os (by show bxOf G M _=_;rw[bx_box hf hm];exact hb) hn
  | op hm =>
    intro u hu
    cases hu with
    | op hb=>exact .op (by show bxOf G M _=_;rw[bx_box hf hm];exact hb)
  | sk hm =>
    intro u hu
    cases hu with
    | sk hb hn hc hr=>exact .sk (by show bxOf G M _=_;rw[bx_box hf hm];exact hb) hn hc hr
  | ag hl h' ih =>
    intro u hu
    cases hu with
    | ag hl2 hk hv =>
      refine .ag (by omega) (fun j hj=>?_) (fun j hj hj'=>ih j (by omega) hj (hv j (by omega) hj'))
      rw[(h' j (by omega) hj).cell]
      exact hk j (by omega)
  | tu hl h' ih =>
    intro u hu
    cases hu with
    | tu hl2 hv=>exact .tu (by omega) (fun j hj hj'=>ih j (by omega) hj (hv j (by omega) hj'))
structure FEnd (S:St) (s t:SV) (M:List (Nat×Nat×Bool)) (K:Nat) (B:Nat→Option (List SV)):Prop where
  like:Like S.T M s t
  fine:Fine M K
  B:∀ k cs,B k=some cs→(∃ b cs0 l,(k,b,false)∈M∧S.B b=some (cs0++l)∧(cs0=[]→l=[])∧cs.length=cs0.length∧∀ j (h:j<cs0.length) (h':j<cs.length),Like S.T M cs0[j] cs[j]) ∨
    (∃ i n sz ds,(k,i,true)∈M∧Tip i ds n s∧0<n∧S.T i=some (n,sz)∧cs=ds.map .d∧∀ x∈ds,∃ v,x=.v v)
theorem FCall.of {gl : Nat → Option D} {md : List Nat} {f : FuncId} {fn : Func} {c : Code} {args : List D} {r : SV} {K : Nat} {B : Nat → Option (List SV)} (hf : P.funcs[f]? = some fn) (hb : fn.body = some c) (hname : (fn.name == "runtime.NumGoroutine") = false) {n : Nat} (hn : fn.ntmps = n) (hle : args.length ≤ n) (hfew : n ≤ globalsAt)
    (h:CS P c (startE gl (args.map .d)) (startS gl md n) (fun ex E S=>(ex=.normal∨ex=.ret)∧∃ s M,resS P E S fn.results.toList=some s∧FEnd S s r M K B)):FCall P gl f args r K B:=by
  refine⟨⟨fn,hf,hname,by rw[hb];rfl⟩,fun m w vals hm hg hl hv=>calls_of_wp hf hb ?_⟩
  have hsz:(vals.toArray++Array.replicate (fn.ntmps - vals.toArray.size) undef).size=n:=by simp;omega
  have hstart:=start_slots (gl:=gl) (G:=⟨fun _=>none,fun _=>none,m,fun _=>none⟩) (w:=w) (ss:=args.map .d) (vals:=vals) (n:=n) (ntmps:=n) (by simpa using hl) (by simpa using hle) (fun j hj hj'=>by
    have:(args.map SV.d)[j]=.d (args[j]'(by simpa using hj)):=by simp
    rw[this]
    exact .d (hv j (by simpa using hj) hj')) hg.1 (Array.replicate (fn.ntmps - vals.toArray.size) undef)
  refine h m w ⟨fun _=>none,fun _=>none,m,fun _=>none⟩ { tmps:=vals.toArray++Array.replicate (fn.ntmps - vals.toArray.size) undef,defers:=[] } w (fun _=>False) (fun _ hb=>hb.elim)
    ⟨hstart,hsz,hfew,fun b cs hb=>by simp[startS] at hb,fun b b' B hb=>by simp[startS] at hb,fun i k sz hi=>by simp[startS] at hi,fun i i' B v k c v' k' c' hi=>by simp at hi,fun i B v k c hi=>by simp at hi,fun i b B v k c hi=>by simp at hi,fun b hb=>⟨rfl,rfl⟩,hm,fun _ _=>rfl,Below.refl _ _,rfl,hg.1,⟨fun b cs B hb=>by simp[startS] at hb,fun b b' B hb=>by simp[startS] at hb,fun _ _=>rfl,hg.2⟩⟩ _ ?_
  rintro ex G' E' S' a' w' ⟨hex,s,M,hs,hE⟩ hn' hr' f
  obtain⟨u,hu,hv'⟩:=resS_ok hr' hs
  have own:∀ k cs,B k=some cs→OwnB (bxOf G' M) w.heap.size w' k cs:=fun k cs hk=>by
    rcases hE.B k cs hk with ⟨b,cs0,l,h1,h2,hne,h3,h4⟩ | ⟨i,n,sz,ds,h1,h2,h3,h4,rfl,h6⟩
    · have hno:G'.obj b=none:=by
        cases ho:G'.obj b with
        | none=>rfl
        | some X =>
          exfalso
          obtain⟨_,_,_,m4⟩:=hr'.more.obj b _ X h2 ho
          by_cases h0:cs0=[]
          · rw[h0,hne h0] at m4;cases m4
          · have hl:=m4.single h0
            rw[hl,List.append_nil] at m4
            cases m4 with
            | mp es _ _ _ _ _ _=>have:=h4 0 (by simp) (by simp at h3;omega);cases this
            | it _ _=>have:=h4 0 (by simp) (by simp at h3;omega);cases this
            | lp _=>have:=h4 0 (by simp) (by simp at h3;omega);cases this
            | df _=>have:=h4 0 (by simp) (by simp at h3;omega);cases this
      obtain⟨X,us,T,g1,g2,g3,g4,g5,gu0,g6⟩:=hr'.box b _ h2 hno
      refine⟨X,us,T,by rw[bx_box hE.fine h1];exact g1,g2,by simp at g3;omega,gu0,g5,fun j hj hj'=>?_⟩
      have hg:=g6 j (by simp;omega) hj'
      rw[List.getElem_append_left (by omega)] at hg
      have hlk:=h4 j (by omega) hj
      refine⟨?_,hlk.vr hr' hE.fine hg.2⟩
      rw[hlk.cell]
      exact hg.1
    · obtain⟨u',hu'⟩:=h2.vr hv'
      obtain⟨X,c,us,T,fr,g1,_,g2,g3,g4,g5,g6,g7⟩:=tip_inv hr' h3 h4 hu'
      refine⟨X,us,(T,fr),by rw[bx_tip hE.fine h1,g1];rfl,g3,by simpa using g6,g4,g5,fun j hj hj'=>?_⟩
      have hj2:j<ds.length:=by simpa using hj
      obtain⟨v,hv⟩:=h6 ds[j] (List.getElem_mem hj2)
      have hg:=g7 j hj2 hj'
      simp only[List.getElem_map]
      refine⟨hg.1,?_⟩
      rw[hv] at hg ⊢
      cases hg.2 with
      | v hx=>exact .d (.v hx)
  have lt:∀ b X,bxOf G' M b=some X→b<K:=fun b X hb=>by
    unfold bxOf at hb
    cases hfd:M.find? (fun p=>p.1 == b) with
    | none=>rw[hfd] at hb;cases hb
    | some p =>
      have h1:=List.mem_of_find?_eq_some hfd
      have h2:=List.find?_some hfd
      have:p.1=b:=by simpa using h2
      rw[← this];exact hE.fine.lt p h1
  have dif:∀ k k' o o',(k,o)∈M→(k',o')∈M→o=o'→k=k':=fun k k' o o' h1 h2 e=>by
    subst e
    obtain⟨i,hi,e1⟩:=List.getElem_of_mem h1
    obtain⟨j,hj,e2⟩:=List.getElem_of_mem h2
    have hi':i<(M.map (·.2)).length:=by simpa using hi
    have hj':j<(M.map (·.2)).length:=by simpa using hj
    have:(M.map (·.2))[i]=(M.map (·.2))[j]:=by simp[e1,e2]
    have hij:=nodup_inj hE.fine.old hi' hj' this
    subst hij
    rw[e1] at e2
    exact (Prod.mk.inj e2).1
  have inj:∀ b b' X,B b≠none→B b'≠none→bxOf G' M b=some X→bxOf G' M b'=some X→b=b':=fun k k' X hk hk' e1 e2=>by
    obtain⟨cs,hcs⟩:=Option.ne_none_iff_exists'.1 hk
    obtain⟨cs',hcs'⟩:=Option.ne_none_iff_exists'.1 hk'
    have kind:∀ k cs,B k=some cs→(∃ b,(k,b,false)∈M∧S'.B b≠none)∨(∃ i,(k,i,true)∈M∧∃ p,G'.tip i=some p):=fun k cs hk=>by
      rcases hE.B k cs hk with ⟨b,cs0,l,h1,h2,_,_⟩ | ⟨i,n,sz,ds,h1,h2,h3,h4,_⟩
      · exact .inl ⟨b,h1,by rw[h2];simp⟩
      · obtain⟨X,v,us,T,cap,fr,g1,_⟩:=hr'.tip i n sz h4
        exact .inr ⟨i,h1,_,g1⟩
    rcases kind k cs hcs with ⟨b,h1,h2⟩ | ⟨i,h1,p,h2⟩<;>rcases kind k' cs' hcs' with ⟨b',h1',h2'⟩ | ⟨i',h1',p',h2'⟩
    · rw[bx_box hE.fine h1] at e1;rw[bx_box hE.fine h1'] at e2
      have:=hr'.inj b b' X h2 h2' e1 e2
      exact dif _ _ _ _ h1 h1' (by rw[this])
    · rw[bx_box hE.fine h1] at e1;rw[bx_tip hE.fine h1',h2'] at e2
      obtain⟨X',v,k0,c⟩:=p'
      simp only[Option.map_some,Option.some.injEq] at e2
      subst e2
      exact (hr'.tbox i' b _ _ _ _ h2' h2 e1).elim
    · rw[bx_tip hE.fine h1,h2] at e1;rw[bx_box hE.fine h1'] at e2
      obtain⟨X',v,k0,c⟩:=p
      simp only[Option.map_some,Option.some.injEq] at e1
      subst e1
      exact (hr'.tbox i b' _ _ _ _ h2 h2' e2).elim
    · rw[bx_tip hE.fine h1,h2] at e1;rw[bx_tip hE.fine h1',h2'] at e2
      obtain⟨X1,v1,k1,c1⟩:=p
      obtain⟨X2,v2,k2,c2⟩:=p'
      simp only[Option.map_some,Option.some.injEq] at e1 e2
      subst e1;subst e2
      have:=hr'.tinj i i' _ _ _ _ _ _ _ h2 h2'
      exact dif _ _ _ _ h1 h1' (by rw[this])
  have fin:a'.defers=[]∧∃ v,(results fn a'.tmps).run P w'=.ok v w'∧(∃ u Bx,Ending.returned v=Ending.returned u∧VR (ghB Bx) w' r u∧(∀ b X,Bx b=some X→b<K)∧(∀ b cs,B b=some cs→OwnB Bx w.heap.size w' b cs) ∧
      (∀ b b' X,B b≠none→B b'≠none→Bx b=some X→Bx b'=some X→b=b')∧Below w.heap.size w w') :=
    ⟨hr'.defers,u,hu,u,bxOf G' M,rfl,hE.like.vr hr' hE.fine hv',lt,own,inj,hr'.below⟩
  rcases hex with rfl | rfl
  · exact fin
  · exact fin
def FinF (P:Program) (rs:List ResultVar) (r:SV) (K:Nat) (B:Nat→Option (List SV)):Exit→Env→St→Prop:=fun ex E S=>(ex=.normal∨ex=.ret)∧∃ s M,resS P E S rs=some s∧FEnd S s r M K B
theorem FCall.by_ {gl : Nat → Option D} {md : List Nat} {f : FuncId} {fn : Func} {c : Code} {args : List D} {r : SV} {K : Nat} {B : Nat → Option (List SV)} (hf : P.funcs[f]? = some fn) (hb : fn.body = some c) (hname : (fn.name == "runtime.NumGoroutine") = false) {n : Nat} (hn : fn.ntmps = n) (hle : args.length ≤ n) (hfew : n ≤ globalsAt) {rs : List ResultVar} (hrs : fn.results.toList = rs)
    (h:@VCt true P ⟨c⟩ (startE gl (args.map .d)) (startS gl md n) (FinF P rs r K B)):FCall P gl f args r K B:=FCall.of (md:=md) hf hb hname hn hle hfew (by rw[hrs];exact VC.sound h)
end
end Go.Sh
namespace Go.Sh
open Go.RowKit (Below)
open Go.ChangeShapes Go.WideShapes Go.RowKit
def markAll (w:World) (B:Nat):Nat:=match w.heap[B]? with | some (.cells us _ _)=>us.size | _=>0
theorem markAll_new (w:World):∀ B,w.heap.size≤B→markAll w B=0:=fun B hB=>by
  unfold markAll
  rw[Array.getElem?_eq_none hB]
theorem markAll_cell {w:World}{a:Addr}{u:Value} (h:w.cell? a=some u):a.spot=none∧a.off<markAll w a.block:=by
  unfold World.cell? at h
  unfold markAll
  split at h
  · rename_i c T fr hb
    rw[hb]
    split at h
    · cases h
    · rename_i hs
      exact⟨by simpa using hs,(Array.getElem?_eq_some_iff.1 h).1⟩
  · cases h
section
variable {P:Program}
def Opens {α:Type} (P:Program) (n:Nat) (t:TypeId) (k:Nat) (e:α→List D) (ok:α→Prop):Prop :=
  ∀ (H:Type) (enc:TypeId×Value→H) (w:World) (cs:List Value) (x:DataW H×List MemPlace),DataW.trod enc P w 0 (fun _=>true) true n t cs=some x→(∀ m∈x.1.weights P t,m≤reachBytes) →
    cs.length=k∧∃ a:α,ok a∧(e a).length=k∧∀ j (h:j<(e a).length) (h':j<cs.length),(e a)[j].cell=true∧PV (markAll w) w (e a)[j] cs[j]
theorem Opens.zero {α:Type}{t:TypeId}{k:Nat}{e:α→List D}{ok:α→Prop}:Opens P 0 t k e ok:=fun H enc w cs x h=>by simp[DataW.trod] at h
theorem Opens.mono {α:Type}{n:Nat}{t:TypeId}{k:Nat}{e:α→List D}{ok ok':α→Prop} (h:Opens P n t k e ok) (hm:∀ a,ok a→ok' a):Opens P n t k e ok':=fun H enc w cs x hx hw=>by
  obtain⟨h1,a,h2,h3⟩:=h H enc w cs x hx hw
  exact⟨h1,a,hm a h2,h3⟩
theorem one_cell {α:Type}{e:α→D}{a:α}{u:Value}{w:World} (hc:(e a).cell=true) (h:PV (markAll w) w (e a) u):∀ j (h:j < [e a].length) (h':j < [u].length),([e a][j]).cell=true∧PV (markAll w) w [e a][j] [u][j]:=by
  intro j hj hj'
  have:j=0:=by simpa using hj
  subst this
  exact⟨hc,h⟩
theorem Opens.int {t:TypeId}{k:IntKind} (ht:intKindOf P t=some k) (n:Nat):Opens P n t 1 (fun i:Int=>[.v (.int k i)]) (fun i=>k.min≤i∧i≤k.max):=fun H enc w cs x h hw=>by
  obtain⟨i,rfl,rfl,hwf⟩:=DataW.trod_int (intKindOf_ok ht) h
  refine⟨rfl,i,by simpa[Lit.wf] using hwf,rfl,one_cell (e:=fun i:Int=>.v (.int k i)) rfl (.v rfl)⟩
theorem Opens.bool {t:TypeId} (ht:P.underlying t=some .bool) (n:Nat):Opens P n t 1 (fun b:Bool=>[.v (.bool b)]) (fun _=>True):=fun H enc w cs x h hw=>by
  obtain⟨b,rfl,rfl⟩:=DataW.trod_bool ht h
  exact⟨rfl,b,trivial,rfl,one_cell (e:=fun b:Bool=>.v (.bool b)) rfl (.v rfl)⟩
theorem Opens.string {t:TypeId} (ht:P.underlying t=some .string) (n:Nat):Opens P n t 1 (fun s:ByteArray=>[.v (.string s)]) (fun s=>s.size≤140737488351232):=fun H enc w cs x h hw=>by
  obtain⟨s,rfl,rfl,_⟩:=DataW.trod_string ht h
  refine⟨rfl,s,?_,rfl,one_cell (e:=fun s:ByteArray=>.v (.string s)) rfl (.v rfl)⟩
  have:=hw s.data.toList.length (by simp[DataW.weights])
  unfold reachBytes at this
  simpa using this
theorem cells?_get {w:World}{a:Addr}{n:Nat}{cs:List Value} (h:w.cells? 0 a n=some cs):cs.length=n∧∀ j (hj:j<cs.length),w.cell? (a.add j)=some cs[j]:=by
  unfold World.cells? at h
  rw[if_pos (Nat.zero_le _)] at h
  have h1:=mapM_some_length h
  simp only[List.length_range] at h1
  refine⟨h1,fun j hj=>?_⟩
  have:=mapM_some_get h j j (List.getElem?_range (by omega))
  rw[this,List.getElem?_eq_getElem hj]
theorem list_choose {α:Type}{n:Nat}{p:Nat→α→Prop} (h:∀ i,i<n→∃ a,p i a):∃ l:List α,l.length=n∧∀ i (hi:i<l.length),p i l[i]:=by
  induction n with
  | zero=>exact⟨[],rfl,fun i hi=>by simp at hi⟩
  | succ n ih =>
    obtain⟨l,hl,hp⟩:=ih (fun i hi=>h i (by omega))
    obtain⟨a,ha⟩:=h n (by omega)
    refine⟨l++[a],by simp[hl],fun i hi=>?_⟩
    rcases Nat.lt_or_ge i l.length with h1 | h1
    · rw[List.getElem_append_left h1];exact hp i h1
    · have:i=n:=by simp at hi;omega
      subst this
      have e:(l++[a])[i]=a:=by rw[List.getElem_append_right (by omega)];simp
      rw[e];exact ha
theorem weightsAll_mem {H:Type}{t:TypeId}:∀ {ds:List (DataW H)}{d:DataW H}{m:Nat},d∈ds→m∈d.weights P t→m∈DataW.weightsAll P t ds
  | x::r,d,m,hd,hm=>by
    simp only[DataW.weightsAll,List.mem_append]
    rcases List.mem_cons.1 hd with rfl | hd
    · exact .inl hm
    · exact .inr (weightsAll_mem hd hm)
theorem flat_at {α:Type}{e:α→List D}{k:Nat}:∀ {l:List α} (h:∀ a∈l,(e a).length=k) {j:Nat} (hj:j<(l.flatMap e).length),∃ (i:Nat) (q:Nat) (hi:i<l.length) (hq:q<(e l[i]).length),j=i*k+q∧(l.flatMap e)[j]=(e l[i])[q]
  | [],h,j,hj=>by simp at hj
  | a::r,h,j,hj=>by
    have ha:=h a List.mem_cons_self
    rcases Nat.lt_or_ge j k with h1 | h1
    · refine⟨0,j,by simp,by simpa[ha] using h1,by simp,?_⟩
      simp only[List.flatMap_cons]
      rw[List.getElem_append_left (by omega)]
      rfl
    · have hj2:j - k<(r.flatMap e).length:=by simp only[List.flatMap_cons,List.length_append] at hj;omega
      obtain⟨i,q,hi,hq,e1,e2⟩:=flat_at (fun a ha=>h a (List.mem_cons_of_mem _ ha)) hj2
      refine⟨i+1,q,by simpa using hi,by simpa using hq,by rw[Nat.add_mul];omega,?_⟩
      simp only[List.flatMap_cons]
      rw[List.getElem_append_right (by omega)]
      simp only[ha,e2,List.getElem_cons_succ]
theorem Opens.slice {α:Type}{n:Nat}{t s:TypeId}{k by_:Nat}{e:α→List D}{ok:α→Prop} (ht:P.underlying t=some (.slice s)) (hs:P.cellsOf s=k) (hk:0<k) (hby:P.bytesOf s=by_) (h:Opens P n s k e ok) :
    Opens P (n+1) t 1 (fun l:List α=>[.ps (l.flatMap e) l.length]) (fun l=>l.length*by_≤140737488351232∧∀ a∈l,ok a):=fun H enc w cs x hx hw=>by
  rcases DataW.trod_slice ht hx with ⟨rfl,rfl⟩ | ⟨a,len,cap,elems,rest,n',hn,rfl,rfl,hb,hl,hm,hlen,hel,hsp,_⟩
  · exact⟨rfl,[],⟨by simp,by simp⟩,rfl,one_cell (e:=fun l:List α=>.ps (l.flatMap e) l.length) rfl .nil⟩
  · obtain rfl:n=n':=by omega
    obtain⟨hrl,hrest⟩:=hsp rfl
    have hw1:(elems.length+rest.length)*by_≤reachBytes:=hw _ (by simp only[DataW.weights,ht,List.mem_cons,List.length_map,hby,true_or])
    have each:∀ i,i<len→∃ c:α,ok c∧(e c).length=k∧∃ us:List Value,us.length=k∧(∀ j (hj:j<us.length),w.cell? ((a.add (i*k)).add j)=some us[j])∧∀ j (h:j<(e c).length) (h':j<us.length),(e c)[j].cell=true∧PV (markAll w) w (e c)[j] us[j]:=by
      intro i hi
      have h1:=hel i hi
      rw[hs,List.getElem?_eq_getElem (by omega),Option.bind_eq_some_iff] at h1
      obtain⟨us,hus,htr⟩:=h1
      obtain⟨g1,g2⟩:=cells?_get hus
      obtain⟨q1,c,q2,q3,q4⟩:=h H enc w us _ htr (fun m hm=>hw m (by
        simp only[DataW.weights,ht,List.mem_cons,List.mem_append]
        exact .inr (.inl (weightsAll_mem (List.mem_map.2 ⟨elems[i]'(by omega),List.getElem_mem _,rfl⟩) hm))))
      exact⟨c,q2,q3,us,q1,g2,q4⟩
    obtain⟨l,hll,hp⟩:=list_choose each
    refine⟨rfl,l,⟨?_,?_⟩,rfl,one_cell (e:=fun l:List α=>.ps (l.flatMap e) l.length) rfl ?_⟩
    · unfold reachBytes at hw1
      refine Nat.le_trans (Nat.mul_le_mul_right _ ?_) hw1
      omega
    · intro c hc
      obtain⟨i,hi,rfl⟩:=List.getElem_of_mem hc
      exact (hp i hi).1
    · rw[← hll]
      have hek:∀ c∈l,(e c).length=k:=fun c hc=>by
        obtain⟨i,hi,rfl⟩:=List.getElem_of_mem hc
        exact (hp i hi).2.1
      by_cases hspot:a.spot=none
      · obtain⟨B,o,sp⟩:=a
        simp only at hspot
        subst hspot
        have get:∀ j (hj:j<(l.flatMap e).length),∃ u,w.cell? ⟨B,o+j,none⟩=some u∧((l.flatMap e)[j]).cell=true∧PV (markAll w) w (l.flatMap e)[j] u:=by
          intro j hj
          obtain⟨i,q,hi,hq,e1,e2⟩:=flat_at hek hj
          obtain⟨_,g1,us,g2,g3,g4⟩:=hp i hi
          have hq2:q<us.length:=by omega
          refine⟨us[q],?_,by rw[e2];exact (g4 q hq hq2).1,by rw[e2];exact (g4 q hq hq2).2⟩
          have:=g3 q hq2
          rw[add_off,add_off] at this
          rw[e1, ← Nat.add_assoc];exact this
        refine .ps (fun j=>(w.cell? ⟨B,o+j,none⟩).getD undef) (by omega) (fun j hj=>?_) (fun j hj=>?_) (fun j hj=>?_)
        · obtain⟨u,h1,h2,h3⟩:=get j hj
          exact⟨(markAll_cell h1).2,by rw[h1];rfl⟩
        · obtain⟨u,h1,h2,h3⟩:=get j hj;exact h2
        · obtain⟨u,h1,h2,h3⟩:=get j hj
          rw[h1];exact h3
      · have hcap:cap=0:=by
          rcases Nat.eq_zero_or_pos cap with h0 | h0
          · exact h0
          · exfalso
            have:∃ cs',w.cells? 0 (a.add (0*k)) k=some cs':=by
              rcases Nat.eq_zero_or_pos len with h1 | h1
              · have:=hrest 0 (by omega)
                rw[hs,h1,Nat.zero_add,List.getElem?_eq_getElem (by omega),Option.bind_eq_some_iff] at this
                obtain⟨us,hus,_⟩:=this
                exact⟨us,hus⟩
              · have:=hel 0 h1
                rw[hs,List.getElem?_eq_getElem (by omega),Option.bind_eq_some_iff] at this
                obtain⟨us,hus,_⟩:=this
                exact⟨us,hus⟩
            obtain⟨cs',hcs'⟩:=this
            obtain⟨g1,g2⟩:=cells?_get hcs'
            have:=(markAll_cell (g2 0 (by omega))).1
            rw[Nat.zero_mul] at this
            simp[Addr.add] at this
            exact hspot this
        have h0:l=[]:=List.length_eq_zero_iff.1 (by omega)
        subst h0
        subst hcap
        exact .pz hspot
theorem drop_take_at {α:Type}{l:List α}{o k j:Nat} (hj:j<((l.drop o).take k).length):((l.drop o).take k)[j]=l[o+j]'(by simp at hj;omega):=by simp
theorem fieldTy_ok {t s:TypeId}{i off:Nat} (h:fieldTy P t i=some (s,off)):∃ fs f,P.underlying t=some (.struct fs)∧fs[i]?=some f∧f.type=s∧f.offset=off:=by
  unfold fieldTy at h
  split at h
  · rename_i fs hu
    split at h
    · rename_i f hf
      simp only[Option.some.injEq,Prod.mk.injEq] at h
      exact⟨fs,f,hu,hf,h.1,h.2⟩
    · cases h
  · cases h
def isStruct (P:Program) (t:TypeId):Bool:=match P.underlying t with | some (.struct _)=>true | _=>false
theorem isStruct_ok {t:TypeId} (h:isStruct P t=true):∃ fs,P.underlying t=some (.struct fs):=by unfold isStruct at h;split at h<;>simp_all
def OpensFrom {α:Type} (P:Program) (n:Nat) (t:TypeId) (i off k:Nat) (e:α→List D) (ok:α→Prop):Prop :=
  ∀ (H:Type) (enc:TypeId×Value→H) (w:World) (cs:List Value) (x:DataW H×List MemPlace),DataW.trod enc P w 0 (fun _=>true) true (n+1) t cs=some x→(∀ m∈x.1.weights P t,m≤reachBytes) →
    ∃ a:α,ok a∧(e a).length=k∧∀ j (h:j<(e a).length) (h':off+j<cs.length),(e a)[j].cell=true∧PV (markAll w) w (e a)[j] cs[off+j]
theorem OpensFrom.nil {n i off:Nat}{t:TypeId}:OpensFrom P n t i off 0 (fun _:Unit=>[]) (fun _=>True):=fun H enc w cs x _ _=>⟨(),trivial,rfl,fun j hj=>by simp at hj⟩
theorem OpensFrom.cons {α β:Type}{n:Nat}{t s:TypeId}{k k' off i:Nat}{e:α→List D}{ok:α→Prop}{e':β→List D}{ok':β→Prop} (hf:fieldTy P t i=some (s,off)) (hs:P.cellsOf s=k) (h:Opens P n s k e ok)
    (h':OpensFrom P n t (i+1) (off+k) k' e' ok'):OpensFrom P n t i off (k+k') (fun p:α×β=>e p.1++e' p.2) (fun p=>ok p.1∧ok' p.2):=fun H enc w cs x hx hw=>by
  obtain⟨fs,f,ht,hf,hft,hfo⟩:=fieldTy_ok hf
  obtain⟨xs,n',hn,hx1,hl,hxl,hel⟩:=DataW.trod_struct ht hx
  obtain rfl:n=n':=by omega
  have h1:=hel i f hf
  have hi:i<xs.length:=by rw[hxl];exact (Array.getElem?_eq_some_iff.1 hf).1
  rw[hft,hfo,hs,List.getElem?_eq_getElem hi] at h1
  obtain⟨g1,a,g2,g3,g4⟩:=h H enc w _ _ h1 (fun m hm=>hw m (by
    rw[hx1]
    simp only[DataW.weights,ht]
    refine DataW.weights_mem_each (j:=i) (t:=s) (d:=(xs[i]).1) ?_ ?_ m hm
    · rw[List.getElem?_map,Array.getElem?_toList,hf];simp[hft]
    · rw[List.getElem?_map,List.getElem?_eq_getElem hi];rfl))
  obtain⟨b,r1,r2,r3⟩:=h' H enc w cs x hx hw
  refine⟨(a,b),⟨g2,r1⟩,by simp[g3,r2],fun j hj hj'=>?_⟩
  rcases Nat.lt_or_ge j k with hj1 | hj1
  · have hj2:j<((cs.drop off).take k).length:=by rw[g1];omega
    have:=g4 j (by omega) hj2
    rw[drop_take_at hj2] at this
    simp only
    rw[List.getElem_append_left (by omega)]
    exact this
  · have:=r3 (j - k) (by simp at hj;omega) (by omega)
    simp only
    rw[List.getElem_append_right (by omega)]
    have e1:off+k+(j - k)=off+j:=by omega
    simp only[e1,g3] at this ⊢
    exact this
theorem OpensFrom.struct {α:Type}{n:Nat}{t:TypeId}{k:Nat}{e:α→List D}{ok:α→Prop} (ht:isStruct P t=true) (hk:P.cellsOf t=k) (h:OpensFrom P n t 0 0 k e ok):Opens P (n+1) t k e ok:=fun H enc w cs x hx hw=>by
  obtain⟨fs,ht⟩:=isStruct_ok ht
  obtain⟨xs,n',hn,hx1,hl,hxl,hel⟩:=DataW.trod_struct ht hx
  obtain⟨a,h1,h2,h3⟩:=h H enc w cs x hx hw
  refine⟨by rw[hl,hk],a,h1,h2,fun j hj hj'=>?_⟩
  have:=h3 j hj (by omega)
  simp only[Nat.zero_add] at this
  exact this
theorem Opens.map {α β:Type}{n:Nat}{t:TypeId}{k:Nat}{e:α→List D}{ok:α→Prop}{e':β→List D}{ok':β→Prop} (g:α→β) (he:∀ a,ok a→e' (g a)=e a) (hok:∀ a,ok a→ok' (g a)) (h:Opens P n t k e ok):Opens P n t k e' ok':=fun H enc w cs x hx hw=>by
  obtain⟨h1,a,h2,h3,h4⟩:=h H enc w cs x hx hw
  exact⟨h1,g a,hok a h2,by rw[he a h2];exact h3,by simp only[he a h2];exact h4⟩
theorem Opens.arg1 {α:Type}{t:TypeId}{e:α→D}{ok:α→Prop} (h:∀ n,Opens P n t 1 (fun a=>[e a]) ok) {H:Type}{enc:TypeId×Value→H}{w:World}{v:Value}{d:DataW H}{p:List MemPlace} (hv:DataW.Trod enc P w 0 (fun _=>true) true t v d p) (h1:v.oneCell'=true) (hw:∀ m∈d.weights P t,m≤reachBytes) :
    ∃ a,ok a∧PV (markAll w) w (e a) v:=by
  obtain⟨n,hn⟩:=hv
  obtain⟨g1,a,g2,g3,g4⟩:=h n H enc w _ _ hn hw
  have hc:v.cells.toList=[v]:=by cases v<;>simp_all [Value.cells,Value.oneCell']
  refine⟨a,g2,?_⟩
  have:=(g4 0 (by simp) (by rw[hc];simp)).2
  simpa[hc] using this
def oneTy (P:Program) (t:TypeId):Bool:=match P.underlying t with | some (.struct _)=>false | some (.array _ _)=>false | _=>true
theorem okWide_one {t:TypeId} (ht:oneTy P t=true) {W:World}{r:Reach}{base:Nat}{v:Value} (h:Value.okWide P W r base t v):v.oneCell'=true:=by
  unfold oneTy at ht
  unfold Value.okWide at h
  generalize hd:P.underlying t=d at ht h
  have hc:Cell.okWide P W r base t v:=by
    split at h
    · simp at ht
    · simp at ht
    · exact h
  unfold Cell.okWide at hc
  rw[hd] at hc
  cases v with
  | agg cs=>split at hc<;>simp_all [Cell.ok]
  | tuple cs=>split at hc<;>simp_all [Cell.ok]
  | _=>rfl
end
end Go.Sh
