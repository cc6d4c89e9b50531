/- Vd and what follows it, one behind another. -/
import Derived.Test.YtlmpjblmmpddeaaGreatMg6
import Derived.Test.YtlmpjblmmpddeaaGreatMg5
set_option linter.unusedVariables false
set_option linter.unusedSimpArgs false
set_option maxRecDepth 100000
namespace Go.Proofs.YtlmpjblmmpddeaaGreat
open Go.Sh
variable {gl:Nat→Option D}
theorem wd_lt {ws:List ByteArray}{i:Nat} (h:wd ws i≠⟨#[]⟩):i<ws.length:=by
  rcases Nat.lt_or_ge i ws.length with h1 | h1
  · exact h1
  · exact absurd (by unfold wd;rw[List.getD_eq_getElem?_getD,List.getElem?_eq_none h1];rfl) h
theorem nameB_size {s:ByteArray} (h:nameB s=true):1≤s.size∧s.size≤12:=by
  unfold nameB at h
  simp only[Bool.and_eq_true,decide_eq_true_eq] at h
  omega
theorem nameB_lt {ws:List ByteArray}{i:Nat} (h:nameB (wd ws i)=true):i<ws.length:=wd_lt fun e=>by
  rw[e] at h
  have:=(nameB_size h).1
  exact absurd this (by decide)
def pTyp0 (ws:List ByteArray) (rec:Nat→Option (Typ×Nat)) (d i:Nat):Option ((ByteArray×List Typ)×Nat) :=
  if wd ws i=⟨#[91]⟩∧0<d then (match rec (i+1) with | some (v,j)=>if wd ws j=⟨#[93]⟩ then some ((⟨#[]⟩,[v]),j+1) else none | none=>none)
  else if nameB (wd ws i)=true then some ((wd ws i,[]),i+1) else none
def pTyp1 (ws:List ByteArray):Option ((ByteArray×List Typ)×Nat)→Option (Typ×Nat)
  | some ((t,l),j)=>if wd ws j=⟨#[33]⟩ then some (.mk t l true,j+1) else some (.mk t l false,j)
  | none=>none
def pTyp (ws:List ByteArray):Nat→Nat→Option (Typ×Nat)
  | 0,_=>none
  | d+1,i=>pTyp1 ws (pTyp0 ws (pTyp ws d) d i)
theorem pTyp1_some {ws:List ByteArray}{o:Option ((ByteArray×List Typ)×Nat)}{v:Typ}{j:Nat} (h:pTyp1 ws o=some (v,j)):∃ t l q,o=some ((t,l),q)∧((wd ws q=⟨#[33]⟩∧v=.mk t l true∧j=q+1)∨(wd ws q≠⟨#[33]⟩∧v=.mk t l false∧j=q)):=by
  unfold pTyp1 at h
  split at h
  · rename_i t l q
    refine⟨t,l,q,rfl,?_⟩
    split at h
    · rename_i hw
      cases h
      exact .inl ⟨hw,rfl,rfl⟩
    · rename_i hw
      cases h
      exact .inr ⟨hw,rfl,rfl⟩
  · cases h
theorem pTyp0_some {ws:List ByteArray}{rec:Nat→Option (Typ×Nat)}{d i q:Nat}{t:ByteArray}{l:List Typ} (h:pTyp0 ws rec d i=some ((t,l),q)):(∃ v j,wd ws i=⟨#[91]⟩∧0<d∧rec (i+1)=some (v,j)∧wd ws j=⟨#[93]⟩∧t=⟨#[]⟩∧l=[v]∧q=j+1)∨(¬ wd ws i=⟨#[91]⟩∧nameB (wd ws i)=true∧t=wd ws i∧l=[]∧q=i+1):=by
  unfold pTyp0 at h
  split at h
  · rename_i h1
    split at h
    · rename_i v j hv
      split at h
      · rename_i hj
        cases h
        exact .inl ⟨v,j,h1.1,h1.2,hv,hj,rfl,rfl,rfl⟩
      · cases h
    · cases h
  · split at h
    · rename_i h2
      cases h
      refine .inr ⟨fun e=>?_,h2,rfl,rfl,rfl⟩
      rw[e] at h2
      exact absurd h2 (by decide)
    · cases h
theorem pTyp_le {ws:List ByteArray}:∀ {d i j:Nat}{v:Typ},pTyp ws d i=some (v,j)→i<j∧j≤ws.length
  | 0,_,_,_,h=>by cases h
  | d+1,i,j,v,h=>by
    obtain⟨t,l,q,h1,h2⟩:=pTyp1_some h
    have hq:i<q∧q≤ws.length:=by
      rcases pTyp0_some h1 with ⟨v1,j1,_,_,h3,h4,_,_,rfl⟩ | ⟨_,h3,_,_,rfl⟩
      · have:=pTyp_le h3
        have:=wd_lt (ws:=ws) (i:=j1) (by rw[h4];decide)
        omega
      · have:=nameB_lt h3
        omega
    rcases h2 with ⟨h2,_,rfl⟩ | ⟨_,_,rfl⟩
    · have:=wd_lt (ws:=ws) (i:=q) (by rw[h2];decide)
      omega
    · exact hq
theorem callt_gen {lo:Lo}{P:Program}{g:FuncId}{ss:List SV}{S:St}{K:Bool→SV→St→Prop}{Q:St→Prop} (hQ:Q S) (h:∀ S',Q S'→CallT lo P g ss S' K):CallT lo P g ss S K:=h S hQ
structure TypI (S0 S:St) (R u v:Nat) (ws:List ByteArray) (q:Nat) (t:ByteArray) (l:List Typ) (x:Ld) (md:List Nat):Prop where
  n:S.n=34
  gl:S.gl=S0.gl
  md:S.md=md
  nx:v+1≤S.nx
  rd:S.B R=some (rdC ws q false)
  res:S.B u=some [.d (dS ⟨#[]⟩), .fl [] 0, .d (dB false)]
  out:S.B v=some [.d (dS t),x.sv, .d (dB false)]
  sh:x.sh=skZ 3 l.length (typsZ l)
  at':At S (v+1) S.nx [x]
  old:∀ y,y<u→y≠R→S.B y=S0.B y
  T:∀ y,y<u→S.T y=S0.T y
set_option maxHeartbeats 8000000 in
theorem l_typ (ws:List ByteArray) (hl:ws.length≤1048576):∀ (d:Nat) (S0:St) (R i:Nat) (tt:Typ) (j:Nat),pTyp ws d i=some (tt,j)→R<S0.nx→S0.B R=some (rdC ws i false)→d≤1048576→
    ∃ r S',LCall Tryz.prog 221 [.op R 0, .d (dI d)] S0 r S'∧∃ X,r=.ag (svs X)∧shs X=tt.sz∧Got S0 S' R (rdC ws j false) X
  | 0,S0,R,i,tt,j,hp,hR,h,hd=>by cases hp
  | d+1,S0,R,i,tt,j,hp,hR,h,hd=>by
    have hj:=pTyp_le hp
    obtain⟨t,l,q,hp0,hp1⟩:=pTyp1_some hp
    have hq:q≤ws.length:=by rcases hp1 with ⟨_,_,rfl⟩ | ⟨_,_,rfl⟩<;>omega
    refine LCall.ex_ (md:=[20,1000020]) Tryz.func221 rfl (by kernel_rfl) (by kernel_rfl) (n:=34) Tryz.ntmps221 (by simp) (by decide) rfl ?_
    simp
    generalize hv:S0.nx+1+1=v at *
    generalize hu:S0.nx=u at *
    have n1:¬ R=u:=by omega
    have n2:¬ R=v:=by omega
    have n4:¬ u=v:=by omega
    have n5:¬ v=u:=by omega
    refine CallT.l (l_peek (ws:=ws) (i:=i) (bad:=false) (by simp[h,n1,n2]) hl (by omega)) rfl ?_
    rcases pTyp0_some hp0 with ⟨v1,j1,e1,e2,e3,e4,rfl,rfl,hqe⟩ | ⟨e1,e2,rfl,rfl,hqe⟩
    case' inl =>
      have hj1:=pTyp_le e3
      have d1:((d+1:Nat):Int) - 1=(d:Int):=by omega
      have d2:(1:Int)<(d:Int)+1:=by omega
      have w1:=wrap64 (n:=(d:Int)) (by omega) (by omega)
      have hj2:=wd_lt (ws:=ws) (i:=j1) (by rw[e4];decide)
      simp[e1,d2]
      refine CallT.x (l_next _ R ws i false (by simp;omega) (by simp[h,n1,n2]) hl (by omega)) rfl (fun r1 S1 h1=>?_)
      obtain⟨q1,hG1⟩:=h1
      subst q1
      have S1_n:=hG1.n
      try simp at S1_n
      have S1_gl:=hG1.gl
      try simp at S1_gl
      have S1_md:=hG1.md
      try simp at S1_md
      have S1_nx:=hG1.nx
      try simp at S1_nx
      have S1_rd:=hG1.rd
      simp[e1,w1,S1_n]
      refine CallT.x (l_typ ws hl d _ R (i+1) v1 j1 e3 (by simp;omega) (by simp[S1_rd]) (by omega)) rfl (fun r2 S2 h2=>?_)
      obtain⟨X,q2,hX,hG2⟩:=h2
      subst q2
      have S2_n:=hG2.n
      try simp[S1_n] at S2_n
      have S2_gl:=hG2.gl
      try simp[S1_gl] at S2_gl
      have S2_md:=hG2.md
      try simp[S1_md] at S2_md
      have S2_nx:=hG2.nx
      try simp at S2_nx
      have S2_rd:=hG2.rd
      have hv2:=hG2.old v (by simp;omega) (by omega)
      have hv1:=hG1.old v (by simp;omega) (by omega)
      have hu2:=hG2.old u (by simp;omega) (by omega)
      have hu1:=hG1.old u (by simp;omega) (by omega)
      simp[n4] at hv1 hv2 hu1 hu2
      rw[hv1] at hv2
      rw[hu1] at hu2
      have hXl:X.length=3:=by rw[← shs_len,hX];simp
      have hXl2:(svs X).length=3:=by simp[hXl]
      have m1:∀ a,¬ v=S1.nx+a:=fun a=>by omega
      have m2:∀ a,¬ u=S1.nx+a:=fun a=>by omega
      have m3:∀ a,¬ S1.nx+a=v:=fun a=>by omega
      have m4:∀ a,¬ S1.nx+a=u:=fun a=>by omega
      have m5:∀ a,¬ R=S1.nx+a:=fun a=>by omega
      simp[S2_n,S2_md,hv2,hXl2,m1]
      refine CallT.x (l_must _ R ws j1 false ⟨#[93]⟩ (by simp;omega) (by simp[n2,S2_rd,m5]) hl (by omega) e4) rfl (fun r3 S3 hG3=>?_)
      have S3_n:=hG3.n
      try simp[S2_n] at S3_n
      have S3_gl:=hG3.gl
      try simp[S2_gl] at S3_gl
      have S3_md:=hG3.md
      try simp[S2_md] at S3_md
      have S3_nx:=hG3.nx
      try simp at S3_nx
      have S3_rd:=hG3.rd
      have hv3:=hG3.old v (by simp;omega) (by omega)
      have hu3:=hG3.old u (by simp;omega) (by omega)
      have hb3:=hG3.old (S1.nx+4) (by simp;omega) (fun e=>m5 _ e.symm)
      simp[n4,hu2,m2,m3] at hv3 hu3 hb3
      simp[S3_n]
      refine callt_gen (Q:=fun S=>TypI S0 S R u v ws q ⟨#[]⟩ [v1] (.row (some 3) (S1.nx+4) 1 X) [20,1000020]) ⟨?_,?_,?_,?_,?_,?_,?_,?_,?_,?_,?_⟩ (fun S hI=>?_)
      · simp[S3_n]
      · simp[S3_gl]
      · simp[S3_md]
      · simp;omega
      · rw[hqe];simp[S3_rd]
      · simp[hu3]
      · simp[hv3]
      · exact row_sh (by rw[hX];simp[typsZ]) (by omega)
      · have hn:=hG2.new
        simp at hn
        refine .row (by simpa using hb3) (by omega) (by simp;omega) ((hn.keep fun b k1 k2=>?_).le (by omega) (by simp;omega)) (fun p hp=>by have:=hn.rng p hp;omega)
        have a3:=hG3.old b (by simp;omega) (by omega)
        have y2:¬ b=v:=by omega
        have y3:¬ b=S1.nx+4:=by omega
        simp[y2,y3] at a3
        exact a3
      · intro y k1 k2
        have a3:=hG3.old y (by simp;omega) k2
        have a2:=hG2.old y (by simp;omega) k2
        have a1:=hG1.old y (by simp;omega) k2
        have y1:¬ y=u:=by omega
        have y2:¬ y=v:=by omega
        have y3:¬ y=S1.nx+4:=by omega
        simp[y1,y2,y3] at a1 a2 a3
        exact a3.trans (a2.trans a1)
      · intro y k1
        have a3:=hG3.T y (by simp;omega)
        have a2:=hG2.T y (by simp;omega)
        have a1:=hG1.T y (by simp;omega)
        simp at a1 a2 a3
        exact a3.trans (a2.trans a1)
      generalize S3.nx=base
      generalize Ld.row (some 3) (S1.nx+4) 1 X=x at hI
    case' inr =>
      simp[e1]
      refine CallT.x (l_name _ R ws i false (by simp;omega) (by simp[h,n1,n2]) hl (by omega) e2 (by have:=nameB_size e2;omega)) rfl (fun r1 S1 h1=>?_)
      obtain⟨q1,hG1⟩:=h1
      subst q1
      have S1_n:=hG1.n
      try simp at S1_n
      have S1_gl:=hG1.gl
      try simp at S1_gl
      have S1_md:=hG1.md
      try simp at S1_md
      have S1_nx:=hG1.nx
      try simp at S1_nx
      have S1_rd:=hG1.rd
      have hv1:=hG1.old v (by simp;omega) (by omega)
      have hu1:=hG1.old u (by simp;omega) (by omega)
      simp[n4] at hv1 hu1
      simp[S1_n,hv1]
      refine callt_gen (Q:=fun S=>TypI S0 S R u v ws q (wd ws i) [] .nil [20,1000020]) ⟨?_,?_,?_,?_,?_,?_,?_,?_,?_,?_,?_⟩ (fun S hI=>?_)
      · simp[S1_n]
      · simp[S1_gl]
      · simp[S1_md]
      · simp;omega
      · rw[hqe];simp[n2,S1_rd]
      · simp[n4,hu1]
      · simp
      · simp[Ld.sh]
      · exact .cons_nil .nil
      · intro y k1 k2
        have a1:=hG1.old y (by simp;omega) k2
        have y1:¬ y=u:=by omega
        have y2:¬ y=v:=by omega
        simp[y1,y2] at a1 ⊢
        exact a1
      · intro y k1
        have a1:=hG1.T y (by simp;omega)
        simp at a1 ⊢
        exact a1
      generalize S1.nx=base
      generalize Ld.nil=x at hI
    all_goals
      obtain⟨I1,I2,I3,I4,I5,I6,I7,I8,I9,I10,I11⟩:=hI
      refine CallT.l (l_peek I5 hl (by omega)) rfl ?_
      obtain⟨z1,z2,z3⟩:=z_one I8
      rcases hp1 with ⟨wq,rfl,rfl⟩ | ⟨wq,rfl,rfl⟩
      · have wq':=wq
        simp[I1,wq]
        refine CallT.x (l_next _ R ws q false (by simp;omega) (by simp[I5]) hl (by omega)) rfl (fun r4 S4 h4=>?_)
        obtain⟨q4,hG4⟩:=h4
        subst q4
        have S4_n:=hG4.n
        try simp[I1] at S4_n
        have S4_gl:=hG4.gl
        try simp[I2] at S4_gl
        have S4_md:=hG4.md
        try simp[I3] at S4_md
        have S4_nx:=hG4.nx
        try simp at S4_nx
        have S4_rd:=hG4.rd
        have hv4:=hG4.old v (by simp;omega) (by omega)
        have hu4:=hG4.old u (by simp;omega) (by omega)
        simp[I6,I7] at hv4 hu4
        simp[n4,wq,S4_n,S4_gl,hv4,hu4]
        refine⟨[.d (.string _),x, .d (.bool true)],rfl,by simp[shs,Ld.sh,Typ.sz,I8],rfl,rfl,rfl,by simp;omega,?_,?_,?_,?_⟩
        · simp[n1,n2];exact S4_rd
        · intro y k1 k2
          have a4:=hG4.old y (by simp;omega) k2
          have y1:¬ y=u:=by omega
          have y2:¬ y=v:=by omega
          simp[y1,y2] at a4 ⊢
          exact a4.trans (I10 y (by omega) k2)
        · intro y k1
          have a4:=hG4.T y (by simp;omega)
          simp at a4 ⊢
          exact a4.trans (I11 y (by omega))
        · refine .cons_d (.app (a:=[x]) (mid:=S.nx) ((I9.keep fun b k1 k2=>?_).le (by omega) (Nat.le_refl _)) (.cons_d .nil) (by omega) (by first | (simp;done)|(simp;omega)))
          have a4:=hG4.old b (by simp;omega) (by omega)
          have y1:¬ b=u:=by omega
          have y2:¬ b=v:=by omega
          simp[y1,y2] at a4 ⊢
          exact a4
      · have wq':=wq
        simp[I1,I2,I6,I7,wq]
        refine⟨[.d (.string _),x, .d (.bool false)],rfl,by simp[shs,Ld.sh,Typ.sz,I8],rfl,rfl,rfl,by simp;omega,?_,?_,?_,?_⟩
        · simp[n1];exact I5
        · intro y k1 k2
          have y1:¬ y=u:=by omega
          simp[y1]
          exact I10 y (by omega) k2
        · intro y k1
          exact I11 y (by omega)
        · refine .cons_d (.app (a:=[x]) (mid:=S.nx) ((I9.keep fun b k1 k2=>?_).le (by omega) (Nat.le_refl _)) (.cons_d .nil) (by omega) (by first | (simp;done)|(simp;omega)))
          have y1:¬ b=u:=by omega
          simp[y1]
def wordVB (s:ByteArray):Bool:=nameB s&&decide (¬ s=⟨#[116,114,117,101]⟩∧¬ s=⟨#[102,97,108,115,101]⟩∧¬ s=⟨#[110,117,108,108]⟩)
theorem nameB_first {s:ByteArray} (h:nameB s=true):letterB (byteI s 0)=true:=by
  have hs:=(nameB_size h).1
  unfold nameB at h
  simp only[Bool.and_eq_true] at h
  cases hl:letterB (byteI s 0) with
  | true=>rfl
  | false =>
    have:nameP s 0=false:=by simp[nameP,hl]
    have:=allTo_false (show 0<s.size by omega) this
    rw[this] at h;simp at h
theorem letter_not {n:Int} (h:letterB n=true):¬ n=34∧¬ n=45∧¬ n=36∧¬ n=91∧¬ n=123∧figureB n=false:=by
  unfold letterB at h
  unfold figureB
  simp only[Bool.or_eq_true,Bool.and_eq_true,decide_eq_true_eq] at h
  refine⟨by omega,by omega,by omega,by omega,by omega,?_⟩
  simp only[Bool.and_eq_false_iff,decide_eq_false_iff_not]
  omega
set_option maxHeartbeats 4000000 in
theorem l_valueW (S0:St) (R:Nat) (ws:List ByteArray) (i d:Nat) (hR:R<S0.nx) (h:S0.B R=some (rdC ws i false)) (hl:ws.length≤1048576) (hi:i≤1048576) (hd:1≤d) (hd2:d≤1048576) (hs:wordVB (wd ws i)=true) :
    ∃ r S',LCall Tryz.prog 222 [.op R 0, .d (dI d)] S0 r S'∧∃ X,r=.ag (svs X)∧shs X=(Val.mk 7 0 (wd ws i) [] []).sz∧Got S0 S' R (rdC ws (i+1) false) X:=by
  unfold wordVB at hs
  simp only[Bool.and_eq_true,decide_eq_true_eq] at hs
  obtain⟨hs0,hs1,hs2,hs3⟩:=hs
  obtain⟨b1,b2,b3,b4,b5,b6⟩:=letter_not (nameB_first hs0)
  have hsz:=nameB_size hs0
  have c0:¬ wd ws i=⟨#[]⟩:=fun e=>by rw[e] at hsz;exact absurd hsz.1 (by decide)
  have c1:¬ wd ws i=⟨#[36]⟩:=fun e=>by rw[e] at b3;exact absurd rfl b3
  have c2:¬ wd ws i=⟨#[91]⟩:=fun e=>by rw[e] at b4;exact absurd rfl b4
  have c3:¬ wd ws i=⟨#[123]⟩:=fun e=>by rw[e] at b5;exact absurd rfl b5
  have hdd:¬ (d:Int)<1:=by omega
  have hs4:0<(wd ws i).size:=by omega
  refine LCall.ex_ (md:=[]) Tryz.func222 rfl (by kernel_rfl) (by kernel_rfl) (n:=91) Tryz.ntmps222 (by simp) (by decide) rfl ?_
  simp
  generalize hu:S0.nx=u at *
  have n1:¬ R=u:=by omega
  have n2:¬ u=R:=by omega
  refine CallT.x (l_next _ R ws i false (by simp;omega) (by simp[h,n1]) hl (by omega)) rfl (fun r1 S1 h1=>?_)
  obtain⟨q1,hG1⟩:=h1
  subst q1
  have S1_n:=hG1.n
  try simp at S1_n
  have S1_gl:=hG1.gl
  try simp at S1_gl
  have S1_md:=hG1.md
  try simp at S1_md
  have S1_nx:=hG1.nx
  try simp at S1_nx
  have S1_rd:=hG1.rd
  have hu1:=hG1.old u (by simp;omega) (by omega)
  simp at hu1
  simp[hs1,hs2,hs3,b1,b2,c0,c1,c2,c3,hdd,hs4,S1_n]
  repeat refine⟨DrawT.mk (by kernel_rfl),?_⟩
  refine CallT.p0 ((p_l1Figure _)) (by first | rfl | (simp;done)|(simp[h,n1,n2,hs1,hs2,hs3,b1,b2,b6,c0,c1,c2,c3,hdd,hs4,S1_n,S1_gl,S1_md,S1_rd,hu1];done)) (by first | rfl | (simp;done)|(simp;rfl)|(simp[h,n1,n2,hs1,hs2,hs3,b1,b2,b6,c0,c1,c2,c3,hdd,hs4,S1_n,S1_gl,S1_md,S1_rd,hu1];done)) ?_
  simp[b6,S1_n]
  repeat refine⟨DrawT.mk (by kernel_rfl),?_⟩
  refine CallT.p0 ((p_l1Name (wd ws i) (by omega))) (by first | rfl | (simp;done)|(simp[h,n1,n2,hs1,hs2,hs3,b1,b2,b6,c0,c1,c2,c3,hdd,hs4,S1_n,S1_gl,S1_md,S1_rd,hu1];done)) (by first | rfl | (simp;done)|(simp;rfl)|(simp[h,n1,n2,hs1,hs2,hs3,b1,b2,b6,c0,c1,c2,c3,hdd,hs4,S1_n,S1_gl,S1_md,S1_rd,hu1];done)) ?_
  simp[S1_n]
  simp[S1_n,S1_gl,hu1,hs0]
  refine⟨[.d (.int .i64 7), .d (.int .i64 0), .d (.string (wd ws i)), .nil, .nil],rfl,by simp[shs,Ld.sh,Val.sz,skT],rfl,rfl,rfl,by simp;omega,?_,?_,?_,?_⟩
  · simp[n1];exact S1_rd
  · intro y k1 k2
    have a1:=hG1.old y (by simp;omega) k2
    have y1:¬ y=u:=by omega
    simp[y1] at a1 ⊢
    exact a1
  · intro y k1
    have a1:=hG1.T y (by simp;omega)
    simp at a1 ⊢
    exact a1
  · exact .cons_d (.cons_d (.cons_d (.cons_nil (.cons_nil .nil))))
end Go.Proofs.YtlmpjblmmpddeaaGreat
namespace Go.Proofs.YtlmpjblmmpddeaaGreat
open Go.Sh
abbrev noVal:Val:=.mk 0 0 ⟨#[]⟩ [] []
def pArg (ws:List ByteArray) (i:Nat):Option (Arg×Nat) :=
  if nameB (wd ws i)=true∧wd ws (i+1)=⟨#[58]⟩ then match pTyp ws 3 (i+2) with
    | some (t,j)=>if wd ws j=⟨#[61]⟩ then (if wordVB (wd ws (j+1))=true then some (⟨wd ws i,t,true, .mk 7 0 (wd ws (j+1)) [] []⟩,j+2) else none) else some (⟨wd ws i,t,false,noVal⟩,j)
    | none=>none
  else none
theorem pArg_some {ws:List ByteArray}{i k:Nat}{a:Arg} (h:pArg ws i=some (a,k)):nameB (wd ws i)=true∧wd ws (i+1)=⟨#[58]⟩∧∃ t j,pTyp ws 3 (i+2)=some (t,j) ∧
    ((wd ws j=⟨#[61]⟩∧wordVB (wd ws (j+1))=true∧a=⟨wd ws i,t,true, .mk 7 0 (wd ws (j+1)) [] []⟩∧k=j+2)∨(¬ wd ws j=⟨#[61]⟩∧a=⟨wd ws i,t,false,noVal⟩∧k=j)):=by
  unfold pArg at h
  split at h
  · rename_i h0
    refine⟨h0.1,h0.2,?_⟩
    split at h
    · rename_i t j ht
      refine⟨t,j,ht,?_⟩
      split at h
      · rename_i h1
        split at h
        · rename_i h2
          cases h;exact .inl ⟨h1,h2,rfl,rfl⟩
        · cases h
      · rename_i h1
        cases h;exact .inr ⟨h1,rfl,rfl⟩
    · cases h
  · cases h
theorem wordVB_name {s:ByteArray} (h:wordVB s=true):nameB s=true:=by
  unfold wordVB at h
  simp only[Bool.and_eq_true] at h
  exact h.1
theorem pArg_le {ws:List ByteArray}{i k:Nat}{a:Arg} (h:pArg ws i=some (a,k)):i<k∧k≤ws.length:=by
  obtain⟨_,_,t,j,h1,h2⟩:=pArg_some h
  have:=pTyp_le h1
  rcases h2 with ⟨_,h3,_,rfl⟩ | ⟨_,_,rfl⟩
  · have:=nameB_lt (wordVB_name h3)
    omega
  · omega
def pArgs (ws:List ByteArray):Nat→Nat→Option (List Arg×Nat)
  | 0,_=>none
  | f+1,i=>if wd ws i=⟨#[41]⟩ then some ([],i) else match pArg ws i with
    | some (a,j)=>match pArgs ws f j with
      | some (l,k)=>some (a::l,k)
      | none=>none
    | none=>none
theorem pArgs_some {ws:List ByteArray}{f i k:Nat}{l:List Arg} (h:pArgs ws (f+1) i=some (l,k)):(wd ws i=⟨#[41]⟩∧l=[]∧k=i)∨(¬ wd ws i=⟨#[41]⟩∧∃ a j r,pArg ws i=some (a,j)∧pArgs ws f j=some (r,k)∧l=a::r):=by
  unfold pArgs at h
  split at h
  · rename_i h0;cases h;exact .inl ⟨h0,rfl,rfl⟩
  · rename_i h0
    split at h
    · rename_i a j ha
      split at h
      · rename_i r k' hr
        cases h;exact .inr ⟨h0,a,j,r,ha,hr,rfl⟩
      · cases h
    · cases h
theorem pArgs_le {ws:List ByteArray}:∀ {f i k:Nat}{l:List Arg},pArgs ws f i=some (l,k)→i≤k∧k<ws.length∧wd ws k=⟨#[41]⟩
  | 0,_,_,_,h=>by cases h
  | f+1,i,k,l,h=>by
    rcases pArgs_some h with ⟨h1,_,rfl⟩ | ⟨_,a,j,r,h1,h2,_⟩
    · exact⟨Nat.le_refl _,wd_lt (by rw[h1];decide),h1⟩
    · have:=pArg_le h1
      have:=pArgs_le h2
      exact⟨by omega,this.2⟩
def pBra (ws:List ByteArray) (i:Nat):Option (List Arg×Nat) :=
  if wd ws i=⟨#[40]⟩ then match pArgs ws ws.length (i+1) with
    | some (a::l,j)=>some (a::l,j+1)
    | _=>none
  else some ([],i)
theorem pBra_some {ws:List ByteArray}{i k:Nat}{l:List Arg} (h:pBra ws i=some (l,k)):(wd ws i=⟨#[40]⟩∧l≠[]∧∃ j,pArgs ws ws.length (i+1)=some (l,j)∧k=j+1)∨(¬ wd ws i=⟨#[40]⟩∧l=[]∧k=i):=by
  unfold pBra at h
  split at h
  · rename_i h0
    split at h
    · rename_i a l' j hj
      cases h;exact .inl ⟨h0,by simp,j,hj,rfl⟩
    · cases h
  · rename_i h0
    cases h;exact .inr ⟨h0,rfl,rfl⟩
def pFld (ws:List ByteArray) (i:Nat):Option (Fld×Nat) :=
  if nameB (wd ws i)=true then match pBra ws (i+1) with
    | some (l,j)=>if wd ws j=⟨#[58]⟩ then match pTyp ws 3 (j+1) with
      | some (t,k)=>some (⟨wd ws i,l,t⟩,k)
      | none=>none
      else none
    | none=>none
  else none
theorem pFld_some {ws:List ByteArray}{i k:Nat}{a:Fld} (h:pFld ws i=some (a,k)):nameB (wd ws i)=true∧∃ l j t,pBra ws (i+1)=some (l,j)∧wd ws j=⟨#[58]⟩∧pTyp ws 3 (j+1)=some (t,k)∧a=⟨wd ws i,l,t⟩:=by
  unfold pFld at h
  split at h
  · rename_i h0
    refine⟨h0,?_⟩
    split at h
    · rename_i l j hl
      split at h
      · rename_i h1
        split at h
        · rename_i t k' ht
          cases h;exact⟨l,j,t,hl,h1,ht,rfl⟩
        · cases h
      · cases h
    · cases h
  · cases h
theorem pFld_le {ws:List ByteArray}{i k:Nat}{a:Fld} (h:pFld ws i=some (a,k)):i<k∧k≤ws.length:=by
  obtain⟨_,l,j,t,h1,_,h2,_⟩:=pFld_some h
  have:=pTyp_le h2
  rcases pBra_some h1 with ⟨_,_,j',h3,rfl⟩ | ⟨_,_,rfl⟩
  · have:=pArgs_le h3;omega
  · omega
def pFlds (ws:List ByteArray):Nat→Nat→Option (List Fld×Nat)
  | 0,_=>none
  | f+1,i=>if wd ws i=⟨#[125]⟩ then some ([],i) else match pFld ws i with
    | some (a,j)=>match pFlds ws f j with
      | some (l,k)=>some (a::l,k)
      | none=>none
    | none=>none
theorem pFlds_some {ws:List ByteArray}{f i k:Nat}{l:List Fld} (h:pFlds ws (f+1) i=some (l,k)):(wd ws i=⟨#[125]⟩∧l=[]∧k=i)∨(¬ wd ws i=⟨#[125]⟩∧∃ a j r,pFld ws i=some (a,j)∧pFlds ws f j=some (r,k)∧l=a::r):=by
  unfold pFlds at h
  split at h
  · rename_i h0;cases h;exact .inl ⟨h0,rfl,rfl⟩
  · rename_i h0
    split at h
    · rename_i a j ha
      split at h
      · rename_i r k' hr
        cases h;exact .inr ⟨h0,a,j,r,ha,hr,rfl⟩
      · cases h
    · cases h
theorem pFlds_le {ws:List ByteArray}:∀ {f i k:Nat}{l:List Fld},pFlds ws f i=some (l,k)→i≤k∧k<ws.length∧wd ws k=⟨#[125]⟩
  | 0,_,_,_,h=>by cases h
  | f+1,i,k,l,h=>by
    rcases pFlds_some h with ⟨h1,_,rfl⟩ | ⟨_,a,j,r,h1,h2,_⟩
    · exact⟨Nat.le_refl _,wd_lt (by rw[h1];decide),h1⟩
    · have:=pFld_le h1
      have:=pFlds_le h2
      exact⟨by omega,this.2⟩
def pWds (ws:List ByteArray):Nat→Nat→Option (List ByteArray×Nat)
  | 0,_=>none
  | f+1,i=>if wd ws i=⟨#[125]⟩ then some ([],i) else if nameB (wd ws i)=true then match pWds ws f (i+1) with
    | some (l,k)=>some (wd ws i::l,k)
    | none=>none
    else none
theorem pWds_some {ws:List ByteArray}{f i k:Nat}{l:List ByteArray} (h:pWds ws (f+1) i=some (l,k)):(wd ws i=⟨#[125]⟩∧l=[]∧k=i)∨(¬ wd ws i=⟨#[125]⟩∧nameB (wd ws i)=true∧∃ r,pWds ws f (i+1)=some (r,k)∧l=wd ws i::r):=by
  unfold pWds at h
  split at h
  · rename_i h0;cases h;exact .inl ⟨h0,rfl,rfl⟩
  · rename_i h0
    split at h
    · rename_i h1
      split at h
      · rename_i r k' hr
        cases h;exact .inr ⟨h0,h1,r,hr,rfl⟩
      · cases h
    · cases h
theorem pWds_le {ws:List ByteArray}:∀ {f i k:Nat}{l:List ByteArray},pWds ws f i=some (l,k)→i≤k∧k<ws.length∧wd ws k=⟨#[125]⟩
  | 0,_,_,_,h=>by cases h
  | f+1,i,k,l,h=>by
    rcases pWds_some h with ⟨h1,_,rfl⟩ | ⟨_,_,r,h2,_⟩
    · exact⟨Nat.le_refl _,wd_lt (by rw[h1];decide),h1⟩
    · have:=pWds_le h2
      exact⟨by omega,this.2⟩
def pAlts (ws:List ByteArray):Nat→Nat→Option (List ByteArray×Nat)
  | 0,_=>none
  | f+1,i=>if wd ws i=⟨#[124]⟩ then (if nameB (wd ws (i+1))=true then match pAlts ws f (i+2) with
    | some (l,k)=>some (wd ws (i+1)::l,k)
    | none=>none
    else none) else some ([],i)
theorem pAlts_some {ws:List ByteArray}{f i k:Nat}{l:List ByteArray} (h:pAlts ws (f+1) i=some (l,k)):(¬ wd ws i=⟨#[124]⟩∧l=[]∧k=i)∨(wd ws i=⟨#[124]⟩∧nameB (wd ws (i+1))=true∧∃ r,pAlts ws f (i+2)=some (r,k)∧l=wd ws (i+1)::r):=by
  unfold pAlts at h
  split at h
  · rename_i h0
    split at h
    · rename_i h1
      split at h
      · rename_i r k' hr
        cases h;exact .inr ⟨h0,h1,r,hr,rfl⟩
      · cases h
    · cases h
  · rename_i h0;cases h;exact .inl ⟨h0,rfl,rfl⟩
theorem pAlts_le {ws:List ByteArray}:∀ {f i k:Nat}{l:List ByteArray},i≤ws.length→pAlts ws f i=some (l,k)→i≤k∧k≤ws.length
  | 0,_,_,_,_,h=>by cases h
  | f+1,i,k,l,h0,h=>by
    rcases pAlts_some h with ⟨_,_,rfl⟩ | ⟨_,h1,r,h2,_⟩
    · exact⟨Nat.le_refl _,h0⟩
    · have h3:=nameB_lt h1
      have:=pAlts_le (by omega) h2
      exact⟨by omega,this.2⟩
abbrev typeS:ByteArray:=⟨#[116,121,112,101]⟩
abbrev inputS:ByteArray:=⟨#[105,110,112,117,116]⟩
abbrev enumS:ByteArray:=⟨#[101,110,117,109]⟩
abbrev unionS:ByteArray:=⟨#[117,110,105,111,110]⟩
def pBody (ws:List ByteArray) (i:Nat) (n:ByteArray):Option (Def×Nat) :=
  if wd ws i=typeS then (if wd ws (i+2)=⟨#[123]⟩ then (match pFlds ws ws.length (i+3) with | some (l,k)=>some (⟨n,1,l,[]⟩,k+1) | none=>none) else none)
  else if wd ws i=inputS then (if wd ws (i+2)=⟨#[123]⟩ then (match pFlds ws ws.length (i+3) with | some (l,k)=>some (⟨n,3,l,[]⟩,k+1) | none=>none) else none)
  else if wd ws i=enumS then (if wd ws (i+2)=⟨#[123]⟩ then (match pWds ws ws.length (i+3) with | some (l,k)=>some (⟨n,2,[],l⟩,k+1) | none=>none) else none)
  else if wd ws i=unionS then (if wd ws (i+2)=⟨#[61]⟩∧nameB (wd ws (i+3))=true then (match pAlts ws ws.length (i+4) with | some (l,k)=>some (⟨n,4,[],wd ws (i+3)::l⟩,k) | none=>none) else none)
  else none
theorem pBody_some {ws:List ByteArray}{i k:Nat}{n:ByteArray}{d:Def} (h:pBody ws i n=some (d,k)) :
    (wd ws i=typeS∧wd ws (i+2)=⟨#[123]⟩∧∃ l j,pFlds ws ws.length (i+3)=some (l,j)∧d=⟨n,1,l,[]⟩∧k=j+1) ∨
    (wd ws i=inputS∧wd ws (i+2)=⟨#[123]⟩∧∃ l j,pFlds ws ws.length (i+3)=some (l,j)∧d=⟨n,3,l,[]⟩∧k=j+1) ∨
    (wd ws i=enumS∧wd ws (i+2)=⟨#[123]⟩∧∃ l j,pWds ws ws.length (i+3)=some (l,j)∧d=⟨n,2,[],l⟩∧k=j+1) ∨
    (wd ws i=unionS∧wd ws (i+2)=⟨#[61]⟩∧nameB (wd ws (i+3))=true∧∃ l,pAlts ws ws.length (i+4)=some (l,k)∧d=⟨n,4,[],wd ws (i+3)::l⟩):=by
  unfold pBody at h
  split at h
  · rename_i h0
    split at h
    · rename_i h1
      split at h
      · rename_i l j hl;cases h;exact .inl ⟨h0,h1,l,j,hl,rfl,rfl⟩
      · cases h
    · cases h
  split at h
  · rename_i h0
    split at h
    · rename_i h1
      split at h
      · rename_i l j hl;cases h;exact .inr (.inl ⟨h0,h1,l,j,hl,rfl,rfl⟩)
      · cases h
    · cases h
  split at h
  · rename_i h0
    split at h
    · rename_i h1
      split at h
      · rename_i l j hl;cases h;exact .inr (.inr (.inl ⟨h0,h1,l,j,hl,rfl,rfl⟩))
      · cases h
    · cases h
  split at h
  · rename_i h0
    split at h
    · rename_i h1
      split at h
      · rename_i l j hl;cases h;exact .inr (.inr (.inr ⟨h0,h1.1,h1.2,l,hl,rfl⟩))
      · cases h
    · cases h
  · cases h
def pDef (ws:List ByteArray) (i:Nat):Option (Def×Nat):=if nameB (wd ws (i+1))=true then pBody ws i (wd ws (i+1)) else none
theorem pDef_some {ws:List ByteArray}{i k:Nat}{d:Def} (h:pDef ws i=some (d,k)):nameB (wd ws (i+1))=true∧pBody ws i (wd ws (i+1))=some (d,k):=by
  unfold pDef at h
  split at h
  · rename_i h0;exact⟨h0,h⟩
  · cases h
theorem pDef_le {ws:List ByteArray}{i k:Nat}{d:Def} (h:pDef ws i=some (d,k)):i<k∧k≤ws.length:=by
  obtain⟨_,h⟩:=pDef_some h
  rcases pBody_some h with ⟨_,_,l,j,h2,_,rfl⟩ | ⟨_,_,l,j,h2,_,rfl⟩ | ⟨_,_,l,j,h2,_,rfl⟩ | ⟨_,_,h1,l,h2,_⟩
  · have:=pFlds_le h2;omega
  · have:=pFlds_le h2;omega
  · have:=pWds_le h2;omega
  · have:=nameB_lt h1
    have:=pAlts_le (by omega) h2;omega
def pDefs (ws:List ByteArray):Nat→Nat→Option (List Def)
  | 0,_=>none
  | f+1,i=>if ws.length≤i then some [] else match pDef ws i with
    | some (d,j)=>match pDefs ws f j with
      | some l=>some (d::l)
      | none=>none
    | none=>none
theorem pDefs_some {ws:List ByteArray}{f i:Nat}{l:List Def} (h:pDefs ws (f+1) i=some l):(ws.length≤i∧l=[])∨(i<ws.length∧∃ d j r,pDef ws i=some (d,j)∧pDefs ws f j=some r∧l=d::r):=by
  unfold pDefs at h
  split at h
  · rename_i h0;cases h;exact .inl ⟨h0,rfl⟩
  · rename_i h0
    split at h
    · rename_i d j hd
      split at h
      · rename_i r hr
        cases h;exact .inr ⟨by omega,d,j,r,hd,hr,rfl⟩
      · cases h
    · cases h
theorem pArgs_len {ws:List ByteArray}:∀ {f i k:Nat}{l:List Arg},pArgs ws f i=some (l,k)→i+l.length≤k
  | 0,_,_,_,h=>by cases h
  | f+1,i,k,l,h=>by
    rcases pArgs_some h with ⟨_,rfl,rfl⟩ | ⟨_,a,j,r,h1,h2,rfl⟩
    · simp
    · have:=pArg_le h1
      have:=pArgs_len h2
      simp;omega
theorem pFlds_len {ws:List ByteArray}:∀ {f i k:Nat}{l:List Fld},pFlds ws f i=some (l,k)→i+l.length≤k
  | 0,_,_,_,h=>by cases h
  | f+1,i,k,l,h=>by
    rcases pFlds_some h with ⟨_,rfl,rfl⟩ | ⟨_,a,j,r,h1,h2,rfl⟩
    · simp
    · have:=pFld_le h1
      have:=pFlds_len h2
      simp;omega
theorem pWds_len {ws:List ByteArray}:∀ {f i k:Nat}{l:List ByteArray},pWds ws f i=some (l,k)→i+l.length≤k
  | 0,_,_,_,h=>by cases h
  | f+1,i,k,l,h=>by
    rcases pWds_some h with ⟨_,rfl,rfl⟩ | ⟨_,_,r,h2,rfl⟩
    · simp
    · have:=pWds_len h2
      simp;omega
theorem pAlts_len {ws:List ByteArray}:∀ {f i k:Nat}{l:List ByteArray},pAlts ws f i=some (l,k)→i+l.length≤k
  | 0,_,_,_,h=>by cases h
  | f+1,i,k,l,h=>by
    rcases pAlts_some h with ⟨_,rfl,rfl⟩ | ⟨_,_,r,h2,rfl⟩
    · simp
    · have:=pAlts_len h2
      simp;omega
theorem pDefs_len {ws:List ByteArray}:∀ {f i:Nat}{l:List Def},i≤ws.length→pDefs ws f i=some l→i+l.length≤ws.length
  | 0,_,_,_,h=>by cases h
  | f+1,i,l,h0,h=>by
    rcases pDefs_some h with ⟨_,rfl⟩ | ⟨_,d,j,r,h1,h2,rfl⟩
    · simp;omega
    · have:=pDef_le h1
      have:=pDefs_len (by omega) h2
      simp;omega
def litL:List UInt8:=[116,121,112,101,32,81,117,101,114,121,123,109,101,58,80,101,114,115,111,110,33,32,97,108,108,40,102,105,114,115,116,58,73,110,116,41,58,91,80,101,114,115,111,110,33,93,32,102,105,110,100,40,105,100,58,73,68,44,107,105,110,100,58,75,105,110,100,61,67,65,84,41,58,84,104,105,110,103,32,110,58,73,110,116,33,32,119,111,114,100,115,58,91,91,83,116,114,105,110,103,33,93,93,125,32,116,121,112,101,32,77,117,116,97,116,105,111,110,123,115,101,116,40,105,100,58,73,110,116,33,44,99,101,108,108,58,83,116,114,105,110,103,33,44,118,97,108,117,101,58,73,110,116,41,58,80,101,114,115,111,110,32,110,58,73,110,116,33,125,32,116,121,112,101,32,80,101,114,115,111,110,123,110,97,109,101,58,83,116,114,105,110,103,33,32,97,103,101,58,73,110,116,32,112,101,116,58,80,101,116,32,102,114,105,101,110,100,115,58,91,80,101,114,115,111,110,93,32,107,105,110,100,58,75,105,110,100,125,32,116,121,112,101,32,80,101,116,123,110,97,109,101,58,83,116,114,105,110,103,33,32,111,119,110,101,114,58,80,101,114,115,111,110,33,125,32,101,110,117,109,32,75,105,110,100,123,67,65,84,32,68,79,71,125,32,117,110,105,111,110,32,84,104,105,110,103,61,80,101,114,115,111,110,124,80,101,116,32,105,110,112,117,116,32,73,110,123,97,58,73,110,116,33,32,98,58,91,83,116,114,105,110,103,93,32,99,58,73,110,125]
def litW:List ByteArray:=[⟨#[116,121,112,101]⟩,⟨#[81,117,101,114,121]⟩,⟨#[123]⟩,⟨#[109,101]⟩,⟨#[58]⟩,⟨#[80,101,114,115,111,110]⟩,⟨#[33]⟩,⟨#[97,108,108]⟩,⟨#[40]⟩,⟨#[102,105,114,115,116]⟩,⟨#[58]⟩,⟨#[73,110,116]⟩,⟨#[41]⟩,⟨#[58]⟩,⟨#[91]⟩,⟨#[80,101,114,115,111,110]⟩,⟨#[33]⟩,⟨#[93]⟩,⟨#[102,105,110,100]⟩,⟨#[40]⟩,⟨#[105,100]⟩,⟨#[58]⟩,⟨#[73,68]⟩,⟨#[107,105,110,100]⟩,⟨#[58]⟩,⟨#[75,105,110,100]⟩,⟨#[61]⟩,⟨#[67,65,84]⟩,⟨#[41]⟩,⟨#[58]⟩,⟨#[84,104,105,110,103]⟩,⟨#[110]⟩,⟨#[58]⟩,⟨#[73,110,116]⟩,⟨#[33]⟩,⟨#[119,111,114,100,115]⟩,⟨#[58]⟩,⟨#[91]⟩,⟨#[91]⟩,⟨#[83,116,114,105,110,103]⟩,⟨#[33]⟩,⟨#[93]⟩,⟨#[93]⟩,⟨#[125]⟩,⟨#[116,121,112,101]⟩,⟨#[77,117,116,97,116,105,111,110]⟩,⟨#[123]⟩,⟨#[115,101,116]⟩,⟨#[40]⟩,⟨#[105,100]⟩,⟨#[58]⟩,⟨#[73,110,116]⟩,⟨#[33]⟩,⟨#[99,101,108,108]⟩,⟨#[58]⟩,⟨#[83,116,114,105,110,103]⟩,⟨#[33]⟩,⟨#[118,97,108,117,101]⟩,⟨#[58]⟩,⟨#[73,110,116]⟩,⟨#[41]⟩,⟨#[58]⟩,⟨#[80,101,114,115,111,110]⟩,⟨#[110]⟩,⟨#[58]⟩,⟨#[73,110,116]⟩,⟨#[33]⟩,⟨#[125]⟩,⟨#[116,121,112,101]⟩,⟨#[80,101,114,115,111,110]⟩,⟨#[123]⟩,⟨#[110,97,109,101]⟩,⟨#[58]⟩,⟨#[83,116,114,105,110,103]⟩,⟨#[33]⟩,⟨#[97,103,101]⟩,⟨#[58]⟩,⟨#[73,110,116]⟩,⟨#[112,101,116]⟩,⟨#[58]⟩,⟨#[80,101,116]⟩,⟨#[102,114,105,101,110,100,115]⟩,⟨#[58]⟩,⟨#[91]⟩,⟨#[80,101,114,115,111,110]⟩,⟨#[93]⟩,⟨#[107,105,110,100]⟩,⟨#[58]⟩,⟨#[75,105,110,100]⟩,⟨#[125]⟩,⟨#[116,121,112,101]⟩,⟨#[80,101,116]⟩,⟨#[123]⟩,⟨#[110,97,109,101]⟩,⟨#[58]⟩,⟨#[83,116,114,105,110,103]⟩,⟨#[33]⟩,⟨#[111,119,110,101,114]⟩,⟨#[58]⟩,⟨#[80,101,114,115,111,110]⟩,⟨#[33]⟩,⟨#[125]⟩,⟨#[101,110,117,109]⟩,⟨#[75,105,110,100]⟩,⟨#[123]⟩,⟨#[67,65,84]⟩,⟨#[68,79,71]⟩,⟨#[125]⟩,⟨#[117,110,105,111,110]⟩,⟨#[84,104,105,110,103]⟩,⟨#[61]⟩,⟨#[80,101,114,115,111,110]⟩,⟨#[124]⟩,⟨#[80,101,116]⟩,⟨#[105,110,112,117,116]⟩,⟨#[73,110]⟩,⟨#[123]⟩,⟨#[97]⟩,⟨#[58]⟩,⟨#[73,110,116]⟩,⟨#[33]⟩,⟨#[98]⟩,⟨#[58]⟩,⟨#[91]⟩,⟨#[83,116,114,105,110,103]⟩,⟨#[93]⟩,⟨#[99]⟩,⟨#[58]⟩,⟨#[73,110]⟩,⟨#[125]⟩]
def schemaL:List Def:=[
  ⟨⟨#[81,117,101,114,121]⟩,1,[⟨⟨#[109,101]⟩,[], .mk ⟨#[80,101,114,115,111,110]⟩ [] true⟩,⟨⟨#[97,108,108]⟩,[⟨⟨#[102,105,114,115,116]⟩, .mk ⟨#[73,110,116]⟩ [] false,false,noVal⟩], .mk ⟨#[]⟩ [.mk ⟨#[80,101,114,115,111,110]⟩ [] true] false⟩,⟨⟨#[102,105,110,100]⟩,[⟨⟨#[105,100]⟩, .mk ⟨#[73,68]⟩ [] false,false,noVal⟩,⟨⟨#[107,105,110,100]⟩, .mk ⟨#[75,105,110,100]⟩ [] false,true, .mk 7 0 ⟨#[67,65,84]⟩ [] []⟩], .mk ⟨#[84,104,105,110,103]⟩ [] false⟩,⟨⟨#[110]⟩,[], .mk ⟨#[73,110,116]⟩ [] true⟩,⟨⟨#[119,111,114,100,115]⟩,[], .mk ⟨#[]⟩ [.mk ⟨#[]⟩ [.mk ⟨#[83,116,114,105,110,103]⟩ [] true] false] false⟩],[]⟩,
  ⟨⟨#[77,117,116,97,116,105,111,110]⟩,1,[⟨⟨#[115,101,116]⟩,[⟨⟨#[105,100]⟩, .mk ⟨#[73,110,116]⟩ [] true,false,noVal⟩,⟨⟨#[99,101,108,108]⟩, .mk ⟨#[83,116,114,105,110,103]⟩ [] true,false,noVal⟩,⟨⟨#[118,97,108,117,101]⟩, .mk ⟨#[73,110,116]⟩ [] false,false,noVal⟩], .mk ⟨#[80,101,114,115,111,110]⟩ [] false⟩,⟨⟨#[110]⟩,[], .mk ⟨#[73,110,116]⟩ [] true⟩],[]⟩,
  ⟨⟨#[80,101,114,115,111,110]⟩,1,[⟨⟨#[110,97,109,101]⟩,[], .mk ⟨#[83,116,114,105,110,103]⟩ [] true⟩,⟨⟨#[97,103,101]⟩,[], .mk ⟨#[73,110,116]⟩ [] false⟩,⟨⟨#[112,101,116]⟩,[], .mk ⟨#[80,101,116]⟩ [] false⟩,⟨⟨#[102,114,105,101,110,100,115]⟩,[], .mk ⟨#[]⟩ [.mk ⟨#[80,101,114,115,111,110]⟩ [] false] false⟩,⟨⟨#[107,105,110,100]⟩,[], .mk ⟨#[75,105,110,100]⟩ [] false⟩],[]⟩,
  ⟨⟨#[80,101,116]⟩,1,[⟨⟨#[110,97,109,101]⟩,[], .mk ⟨#[83,116,114,105,110,103]⟩ [] true⟩,⟨⟨#[111,119,110,101,114]⟩,[], .mk ⟨#[80,101,114,115,111,110]⟩ [] true⟩],[]⟩,
  ⟨⟨#[75,105,110,100]⟩,2,[],[⟨#[67,65,84]⟩,⟨#[68,79,71]⟩]⟩,
  ⟨⟨#[84,104,105,110,103]⟩,4,[],[⟨#[80,101,114,115,111,110]⟩,⟨#[80,101,116]⟩]⟩,
  ⟨⟨#[73,110]⟩,3,[⟨⟨#[97]⟩,[], .mk ⟨#[73,110,116]⟩ [] true⟩,⟨⟨#[98]⟩,[], .mk ⟨#[]⟩ [.mk ⟨#[83,116,114,105,110,103]⟩ [] false] false⟩,⟨⟨#[99]⟩,[], .mk ⟨#[73,110]⟩ [] false⟩],[]⟩]
theorem lit_plain:litL.all plainU=true:=by decide +kernel
theorem lit_words:(wordsL litL).map bs=litW:=by decide +kernel
theorem lit_schema:pDefs litW litW.length 0=some schemaL:=by kernel_rfl
end Go.Proofs.YtlmpjblmmpddeaaGreat
namespace Go.Proofs.YtlmpjblmmpddeaaGreat
open Go.Sh
variable {gl:Nat→Option D}
def rdMu (R n:Nat) (_:Env) (S:St):Nat:=match S.B R with | some [_, .d (.v (.int _ i)),_]=>n - i.toNat | _=>0
theorem rdMu_lt {R n i j:Nat}{ws:List ByteArray}{b b':Bool}{E E':Env}{S S':St} (h:S.B R=some (rdC ws i b)) (h':S'.B R=some (rdC ws j b')) (hij:i<j) (hj:j≤n):rdMu R n E' S'<rdMu R n E S:=by
  unfold rdMu
  rw[h,h']
  simp
  omega
theorem rows_add {α:Type} (f:α→List Sk) (l:List α) (x:α):rowsZ f (l++[x])=rowsZ f l++f x:=by simp[rowsZ]
theorem AccZ.pos {S:St}{lo hi z n:Nat}{sk:List Sk}{X:SV} (h:AccZ S lo hi z n sk X) (hn:n≠0):∃ b,X=.sk b n z:=by
  obtain⟨x,rfl,e2,_⟩:=h
  rcases ld_z e2 with ⟨_,h0⟩ | ⟨b,cs,rfl,_,_⟩
  · exact absurd h0 hn
  · exact⟨b,rfl⟩
theorem OpT_addZ2 {P:Program}{S1 S:St}{lo hi z n:Nat}{sk:List Sk}{X:SV}{xs:List SV}{lo2 hi2 id:Nat}{dst:Option Nat}{T e by_:Nat}{K:Bool→SV→Eff→Prop} (N:List Ld) (hT:appOf P T=some (e,z,by_))
    (h:AccZ S1 lo hi z n sk X) (hl:sk.length=n*z) (hb:appBound n 1 by_) (hx:xs=svs N) (hNl:N.length=z) (h0:lo≤hi) (h1:hi≤lo2) (h2:lo2≤hi2) (h3:hi2≤id) (hS:∀ b,lo≤b→b<hi→S.B b=S1.B b) (hN:At S lo2 hi2 N)
    (hK:∀ X' S' E',S.app id E'=S'→AccZ S' lo (id+1) z (n+1) (sk++shs N) X'→(∀ b,(b<lo∨hi≤b)→b≠id→S'.B b=S.B b)→SameT S S'→K true X' E'):OpT (evalAppend P S id dst T X (.ls xs 1)) K :=
  OpT_addZ h hl hS hx hN hNl hT hb h1 (by omega) (by omega) (by omega) (by omega) (by omega) (fun p hp=>by have:=hN.rng p hp;omega) hK
theorem three_of {l:List Ld} (h:l.length=3):∃ a b c,l=[a,b,c]:=by
  match l,h with
  | [a,b,c],_=>exact⟨a,b,c,rfl⟩
theorem five_of {l:List Ld} (h:l.length=5):∃ a b c d e,l=[a,b,c,d,e]:=by
  match l,h with
  | [a,b,c,d,e],_=>exact⟨a,b,c,d,e,rfl⟩
structure FldI (S0 Sr S:St) (R N v:Nat) (ws:List ByteArray) (q:Nat) (nm:ByteArray) (Y:SV) (l:List Arg):Prop where
  n:S.n=81
  gl:S.gl=S0.gl
  md:S.md=[1000057,1000076]
  nx:v+1≤S.nx
  rd:S.B R=some (rdC ws q false)
  cell:S.B v=some [.d (dS nm),Y, .d (dS ⟨#[]⟩), .fl [] 0, .d (dB false)]
  row:AccZ S (v+1) S.nx 10 l.length (rowsZ Arg.sz l) Y
  old:∀ y,y<N→y≠R→S.B y=Sr.B y
  T:∀ y,y<N→S.T y=Sr.T y
set_option maxHeartbeats 16000000 in
theorem l_fields (ws:List ByteArray) (hl:ws.length≤1048576) (S0:St) (R i0 j:Nat) (L:List Fld) (hb:wd ws i0=⟨#[123]⟩) (hp:pFlds ws ws.length (i0+1)=some (L,j)) (hR:R<S0.nx) (h:S0.B R=some (rdC ws i0 false)) :
    ∃ r S',LCall Tryz.prog 194 [.op R 0] S0 r S'∧∃ x:Ld,r=x.sv∧x.sh=skZ 5 L.length (rowsZ Fld.sz L)∧Got S0 S' R (rdC ws (j+1) false) [x]:=by
  have hj:=pFlds_le hp
  have hi0:=wd_lt (ws:=ws) (i:=i0) (by rw[hb];decide)
  refine LCall.ex_ (md:=[1000057,1000076]) Tryz.func194 rfl (by kernel_rfl) (by kernel_rfl) (n:=81) Tryz.ntmps194 (by simp) (by decide) rfl ?_
  simp
  generalize hu:S0.nx=u at *
  refine CallT.x (l_must _ R ws i0 false ⟨#[123]⟩ (by simp;omega) (by simp[h]) hl (by omega) hb) rfl (fun r1 S1 hG1=>?_)
  have S1_n:=hG1.n
  try simp at S1_n
  have S1_gl:=hG1.gl
  try simp at S1_gl
  have S1_md:=hG1.md
  try simp at S1_md
  have S1_nx:=hG1.nx
  try simp at S1_nx
  have S1_rd:=hG1.rd
  simp
  refine LoopT.round (fun E S=>∃ (f:Nat) (i:Nat) (done:List Fld) (rest:List Fld) (X:SV),(pFlds ws f i=some (rest,j))∧(done++rest=L)∧(S.B R=some (rdC ws i false))∧(AccZ S u S.nx 5 done.length (rowsZ Fld.sz done) X)∧(∀ y,y<u→y≠R→S.B y=S0.B y)∧(∀ y,y<u→S.T y=S0.T y)∧(u≤S.nx)∧E 0=some (.op R 0)∧E 3=some (X)) (rdMu R ws.length) ⟨ws.length,i0+1,[],L, .fl [] 0,by simp[S1_rd];exact⟨hp,AccZ.nil,fun y k1 k2=>by have:=hG1.old y (by simp;omega) k2;simpa using this,fun y k1=>by have:=hG1.T y (by simp;omega);simpa using this,by omega⟩⟩ ?_
  rintro E S hk ⟨f,i,done,rest,X,hpf,hL,hrd,hA,ho,hT,hnx,h0,h3⟩
  have hn:S.n=81:=by first | (simpa using hk.n)|(have hh:=hk.n;simp[S1_n] at hh;exact hh)
  have hg:S.gl=S0.gl:=by first | (simpa using hk.gl)|(have hh:=hk.gl;simp[S1_gl] at hh;exact hh)
  have hmd:S.md=[1000057,1000076]:=by first | (simpa using hk.md)|(have hh:=hk.md;simp[S1_md] at hh;exact hh)
  simp[h0,hn]
  obtain⟨f,rfl⟩:∃ g,f=g+1:=by
    cases f with
    | zero=>cases hpf
    | succ g=>exact⟨g,rfl⟩
  have hle:=pFlds_le hpf
  have n1:¬ R=u:=by omega
  refine CallT.l (l_peek (ws:=ws) (i:=i) (bad:=false) (by simp[hrd]) hl (by omega)) rfl ?_
  rcases pFlds_some hpf with ⟨e1,rfl,rfl⟩ | ⟨e1,a,i',rest',ha,hpf',rfl⟩
  · have e1':=e1
    simp[h0,hn,e1]
    refine CallT.x (l_must _ R ws j false ⟨#[125]⟩ (by simp;omega) (by simp[hrd]) hl (by omega) e1') rfl (fun r2 S2 hG2=>?_)
    have S2_n:=hG2.n
    try simp[hn] at S2_n
    have S2_gl:=hG2.gl
    try simp[hg] at S2_gl
    have S2_md:=hG2.md
    try simp[hmd] at S2_md
    have S2_nx:=hG2.nx
    try simp at S2_nx
    have S2_rd:=hG2.rd
    simp[h3,S2_n,S2_gl]
    obtain⟨x,x1,x2,x3⟩:=hA
    refine⟨x,x1,by rw[← hL,List.append_nil];exact x2,rfl,rfl,rfl,by simp;omega,by simpa using S2_rd,fun y k1 k2=>?_,fun y k1=>?_,?_⟩
    · have a2:=hG2.old y (by simp;omega) k2
      simp at a2 ⊢
      exact a2.trans (ho y (by omega) k2)
    · have a2:=hG2.T y (by simp;omega)
      simp at a2 ⊢
      exact a2.trans (hT y (by omega))
    · refine (x3.keep fun b k1 k2=>?_).le (by omega) (by simp;omega)
      have a2:=hG2.old b (by simp;omega) (by omega)
      simpa using a2
  · have hle2:=pFld_le ha
    obtain⟨a1,l,q,t,a2,a3,a4,rfl⟩:=pFld_some ha
    have hdl0:done.length+1≤ws.length:=by
      have:=pFlds_len hp
      rw[← hL] at this
      simp at this
      omega
    obtain⟨Sr,hSr⟩:∃ Sr,S=Sr:=⟨_,rfl⟩
    obtain⟨N,hN⟩:∃ N,S.nx=N:=⟨_,rfl⟩
    have hrO:∀ y,y<N→y≠R→S.B y=Sr.B y:=fun y _ _=>by rw[hSr]
    have hrT:∀ y,y<N→S.T y=Sr.T y:=fun y _=>by rw[hSr]
    have hi1:=nameB_lt a1
    simp[h0,hn,hrd,e1]
    refine CallT.x (l_name _ R ws i false (by simp;omega) (by simp[hrd]) hl (by omega) a1 (by have:=nameB_size a1;omega)) rfl (fun r2 S2 h2=>?_)
    obtain⟨q2,hG2⟩:=h2
    subst q2
    have S2_n:=hG2.n
    try simp[hn] at S2_n
    have S2_gl:=hG2.gl
    try simp[hg] at S2_gl
    have S2_md:=hG2.md
    try simp[hmd] at S2_md
    have S2_nx:=hG2.nx
    try simp at S2_nx
    have S2_rd:=hG2.rd
    have S2_o:∀ y,y<N→y≠R→S2.B y=Sr.B y:=fun y k1 k2=>by
      have a1:=hG2.old y (by first | omega | (simp;omega)) k2
      try simp at a1
      exact a1.trans (hrO y k1 k2)
    have S2_t:∀ y,y<N→S2.T y=Sr.T y:=fun y k1=>by
      have a1:=hG2.T y (by first | omega | (simp;omega))
      try simp at a1
      exact a1.trans (hrT y k1)
    simp[h0,S2_n]
    obtain⟨v,hv⟩:∃ v,S.nx+10+3=v:=⟨_,rfl⟩
    have nRv:¬ R=v:=by omega
    have nvR:¬ v=R:=by omega
    rw[hv]
    refine CallT.l (l_peek (ws:=ws) (i:=i+1) (bad:=false) (by simp[S2_rd,nRv]) hl (by omega)) rfl ?_
    rcases pBra_some a2 with ⟨b1,b2,q',b3,rfl⟩ | ⟨b1,rfl,rfl⟩
    case' inl =>
      have hq':=pArgs_le b3
      have b1':=b1
      simp[h0,S2_n,b1]
      refine CallT.x (l_next _ R ws (i+1) false (by simp;omega) (by simp[S2_rd,nRv]) hl (by omega)) rfl (fun r3 S3 h3=>?_)
      obtain⟨q3,hG3⟩:=h3
      subst q3
      have S3_n:=hG3.n
      try simp[S2_n] at S3_n
      have S3_gl:=hG3.gl
      try simp[S2_gl] at S3_gl
      have S3_md:=hG3.md
      try simp[S2_md] at S3_md
      have S3_nx:=hG3.nx
      try simp at S3_nx
      have S3_rd:=hG3.rd
      have v_S3:=hG3.old v (by first | omega | (simp;omega)) (by omega)
      try simp at v_S3
      have S3_o:∀ y,y<N→y≠R→S3.B y=Sr.B y:=fun y k1 k2=>by
        have a1:=hG3.old y (by first | omega | (simp;omega)) k2
        have y1:¬ y=v:=by omega
        try simp[y1] at a1
        exact a1.trans (S2_o y k1 k2)
      have S3_t:∀ y,y<N→S3.T y=Sr.T y:=fun y k1=>by
        have a1:=hG3.T y (by first | omega | (simp;omega))
        try simp at a1
        exact a1.trans (S2_t y k1)
      simp[b1]
      refine LoopT.round (fun E S=>∃ (f2:Nat) (i2:Nat) (done2:List Arg) (rest2:List Arg) (Y:SV),(pArgs ws f2 i2=some (rest2,q'))∧(done2++rest2=l)∧(S.B R=some (rdC ws i2 false))∧(AccZ S (v+1) S.nx 10 done2.length (rowsZ Arg.sz done2) Y)∧(∀ y,y<N→y≠R→S.B y=Sr.B y)∧(∀ y,y<N→S.T y=Sr.T y)∧(v+1≤S.nx)∧(S.B v=some [.d (dS (wd ws i)),Y, .d (dS ⟨#[]⟩), .fl [] 0, .d (dB false)])∧E 0=some (.op R 0)∧E 3=some (X)∧E 4=some (.op v 0)) (rdMu R ws.length) ⟨ws.length,i+1+1,[],l, .fl [] 0,by simp[h0,h3,S3_rd,v_S3];exact⟨b3,AccZ.nil,S3_o,S3_t,by omega⟩⟩ ?_
      rintro E S hk ⟨f2,i2,done2,rest2,Y,hp2,hL2,hrd2,hA2,hrO2,hrT2,hnx2,hBv,h0,h3,h4⟩
      have hn:S.n=81:=by first | (simpa using hk.n)|(have hh:=hk.n;simp[S3_n] at hh;exact hh)
      have hg:S.gl=S0.gl:=by first | (simpa using hk.gl)|(have hh:=hk.gl;simp[S3_gl] at hh;exact hh)
      have hmd:S.md=[1000057,1000076]:=by first | (simpa using hk.md)|(have hh:=hk.md;simp[S3_md] at hh;exact hh)
      simp[h0,hn]
      obtain⟨f2,rfl⟩:∃ g,f2=g+1:=by
        cases f2 with
        | zero=>cases hp2
        | succ g=>exact⟨g,rfl⟩
      have hle3:=pArgs_le hp2
      have hyo:=hA2.one
      obtain⟨y1,y2,y3⟩:=hyo
      refine CallT.l (l_peek (ws:=ws) (i:=i2) (bad:=false) (by simp[hrd2]) hl (by omega)) rfl ?_
      rcases pArgs_some hp2 with ⟨e2,rfl,rfl⟩ | ⟨e2,a,i3,r2,c1,c2,rfl⟩
      case' inr =>
        obtain⟨c3,c4,t2,j2,c5,c6⟩:=pArg_some c1
        have hc1:=pArg_le c1
        have hdl:done2.length+1≤ws.length:=by
          have:=pArgs_len b3
          rw[← hL2] at this
          simp at this
          omega
        have hc3:=nameB_lt c3
        have hc5:=pTyp_le c5
        obtain⟨Sr2,hSr2⟩:∃ Sr2,S=Sr2:=⟨_,rfl⟩
        obtain⟨N2,hN2⟩:∃ N2,S.nx=N2:=⟨_,rfl⟩
        have hr3:∀ y,y<N2→y≠R→S.B y=Sr2.B y:=fun y _ _=>by rw[hSr2]
        have ht3:∀ y,y<N2→S.T y=Sr2.T y:=fun y _=>by rw[hSr2]
        simp[h0,hn,hrd2,e2]
        refine CallT.x (l_name _ R ws i2 false (by simp;omega) (by simp[hrd2]) hl (by omega) c3 (by have:=nameB_size c3;omega)) rfl (fun r4 S4 h4=>?_)
        obtain⟨q4,hG4⟩:=h4
        subst q4
        have S4_n:=hG4.n
        try simp[hn] at S4_n
        have S4_gl:=hG4.gl
        try simp[hg] at S4_gl
        have S4_md:=hG4.md
        try simp[hmd] at S4_md
        have S4_nx:=hG4.nx
        try simp at S4_nx
        have S4_rd:=hG4.rd
        have v_S4:=hG4.old v (by first | omega | (simp;omega)) (by omega)
        try simp[hBv] at v_S4
        have S4_o:∀ y,y<N2→y≠R→S4.B y=Sr2.B y:=fun y k1 k2=>by
          have a1:=hG4.old y (by first | omega | (simp;omega)) k2
          try simp at a1
          exact a1.trans (hr3 y k1 k2)
        have S4_t:∀ y,y<N2→S4.T y=Sr2.T y:=fun y k1=>by
          have a1:=hG4.T y (by first | omega | (simp;omega))
          try simp at a1
          exact a1.trans (ht3 y k1)
        simp[h0,S4_n]
        obtain⟨w,hw⟩:∃ w,S.nx+10+3=w:=⟨_,rfl⟩
        have nRw:¬ R=w:=by omega
        have nwR:¬ w=R:=by omega
        have nvw:¬ v=w:=by omega
        have nwv:¬ w=v:=by omega
        rw[hw]
        refine CallT.x (l_must _ R ws (i2+1) false ⟨#[58]⟩ (by simp;omega) (by simp[S4_rd,nRw]) hl (by omega) c4) rfl (fun r5 S5 hG5=>?_)
        have S5_n:=hG5.n
        try simp[S4_n] at S5_n
        have S5_gl:=hG5.gl
        try simp[S4_gl] at S5_gl
        have S5_md:=hG5.md
        try simp[S4_md] at S5_md
        have S5_nx:=hG5.nx
        try simp at S5_nx
        have S5_rd:=hG5.rd
        have v_S5:=hG5.old v (by first | omega | (simp;omega)) (by omega)
        try simp[v_S4,nvw] at v_S5
        have w_S5:=hG5.old w (by first | omega | (simp;omega)) (by omega)
        try simp at w_S5
        have S5_o:∀ y,y<N2→y≠R→S5.B y=Sr2.B y:=fun y k1 k2=>by
          have a1:=hG5.old y (by first | omega | (simp;omega)) k2
          have y1:¬ y=w:=by omega
          try simp[y1] at a1
          exact a1.trans (S4_o y k1 k2)
        have S5_t:∀ y,y<N2→S5.T y=Sr2.T y:=fun y k1=>by
          have a1:=hG5.T y (by first | omega | (simp;omega))
          try simp at a1
          exact a1.trans (S4_t y k1)
        simp[h0,S5_n]
        refine CallT.x (l_typ ws hl 3 _ R (i2+2) t2 j2 c5 (by simp;omega) (by simp[S5_rd]) (by omega)) rfl (fun r6 S6 h6=>?_)
        obtain⟨T6,q6,hT6,hG6⟩:=h6
        subst q6
        have S6_n:=hG6.n
        try simp[S5_n] at S6_n
        have S6_gl:=hG6.gl
        try simp[S5_gl] at S6_gl
        have S6_md:=hG6.md
        try simp[S5_md] at S6_md
        have S6_nx:=hG6.nx
        try simp at S6_nx
        have S6_rd:=hG6.rd
        have v_S6:=hG6.old v (by first | omega | (simp;omega)) (by omega)
        try simp[v_S5] at v_S6
        have w_S6:=hG6.old w (by first | omega | (simp;omega)) (by omega)
        try simp[w_S5] at w_S6
        have S6_o:∀ y,y<N2→y≠R→S6.B y=Sr2.B y:=fun y k1 k2=>by
          have a1:=hG6.old y (by first | omega | (simp;omega)) k2
          have y1:¬ y=w:=by omega
          try simp at a1
          exact a1.trans (S5_o y k1 k2)
        have S6_t:∀ y,y<N2→S6.T y=Sr2.T y:=fun y k1=>by
          have a1:=hG6.T y (by first | omega | (simp;omega))
          try simp at a1
          exact a1.trans (S5_t y k1)
        obtain⟨ta,tb,tc,rfl⟩:=three_of (by rw[← shs_len,hT6];simp:T6.length=3)
        simp[h0,S6_n,w_S6]
        refine CallT.l (l_peek (ws:=ws) (i:=j2) (bad:=false) (by simp[nRw,S6_rd]) hl (by omega)) rfl ?_
        rcases c6 with ⟨d1,d2,rfl,rfl⟩ | ⟨d1,rfl,rfl⟩
        case' inl =>
          have d1':=d1
          have hd2:=nameB_lt (wordVB_name d2)
          simp[h0,S6_n,d1]
          refine CallT.x (l_next _ R ws j2 false (by simp;omega) (by simp[nRw,S6_rd]) hl (by omega)) rfl (fun r7 S7 h7=>?_)
          obtain⟨q7,hG7⟩:=h7
          subst q7
          have S7_n:=hG7.n
          try simp[S6_n] at S7_n
          have S7_gl:=hG7.gl
          try simp[S6_gl] at S7_gl
          have S7_md:=hG7.md
          try simp[S6_md] at S7_md
          have S7_nx:=hG7.nx
          try simp at S7_nx
          have S7_rd:=hG7.rd
          have v_S7:=hG7.old v (by first | omega | (simp;omega)) (by omega)
          try simp[nvw,v_S6] at v_S7
          have w_S7:=hG7.old w (by first | omega | (simp;omega)) (by omega)
          try simp at w_S7
          have S7_o:∀ y,y<N2→y≠R→S7.B y=Sr2.B y:=fun y k1 k2=>by
            have a1:=hG7.old y (by first | omega | (simp;omega)) k2
            have y1:¬ y=w:=by omega
            try simp[y1] at a1
            exact a1.trans (S6_o y k1 k2)
          have S7_t:∀ y,y<N2→S7.T y=Sr2.T y:=fun y k1=>by
            have a1:=hG7.T y (by first | omega | (simp;omega))
            try simp at a1
            exact a1.trans (S6_t y k1)
          simp[h0,d1,S7_n,w_S7]
          refine CallT.x (l_valueW _ R ws (j2+1) 3 (by simp;omega) (by simp[nRw,S7_rd]) hl (by omega) (by omega) (by omega) d2) rfl (fun r8 S8 h8=>?_)
          obtain⟨V8,q8,hV8,hG8⟩:=h8
          subst q8
          have S8_n:=hG8.n
          try simp[S7_n] at S8_n
          have S8_gl:=hG8.gl
          try simp[S7_gl] at S8_gl
          have S8_md:=hG8.md
          try simp[S7_md] at S8_md
          have S8_nx:=hG8.nx
          try simp at S8_nx
          have S8_rd:=hG8.rd
          have v_S8:=hG8.old v (by first | omega | (simp;omega)) (by omega)
          try simp[nvw,v_S7] at v_S8
          have w_S8:=hG8.old w (by first | omega | (simp;omega)) (by omega)
          try simp at w_S8
          have S8_o:∀ y,y<N2→y≠R→S8.B y=Sr2.B y:=fun y k1 k2=>by
            have a1:=hG8.old y (by first | omega | (simp;omega)) k2
            have y1:¬ y=w:=by omega
            try simp[y1] at a1
            exact a1.trans (S7_o y k1 k2)
          have S8_t:∀ y,y<N2→S8.T y=Sr2.T y:=fun y k1=>by
            have a1:=hG8.T y (by first | omega | (simp;omega))
            try simp at a1
            exact a1.trans (S7_t y k1)
          obtain⟨va,vb,vc,vd,ve,rfl⟩:=five_of (by rw[← shs_len,hV8];simp:V8.length=5)
          simp[h4,nvw,S8_n,S8_md,v_S8,w_S8]
          refine OpT_addZ2 (e:=118) (by_:=152) (lo2:=N2) (hi2:=S8.nx) [.d (.string (wd ws i2)),ta,tb,tc, .d (.bool true),va,vb,vc,vd,ve] (by kernel_rfl) hA2 (rowsZ_len (fun x=>by simp) _) (by unfold appBound;omega) rfl rfl (by omega) (by omega) (by omega) (by omega) ?_ ?_ ?_
          · intro b k1 k2
            have z1:¬ b=w:=by omega
            simp[z1]
            exact (S8_o b (by omega) (by omega)).trans (by rw[hSr2])
          · refine .cons_d (.app (a:=[ta,tb,tc]) (mid:=S6.nx) ((hG6.new.keep fun b k1 k2=>?_).le ?_ (Nat.le_refl _)) (.cons_d ((hG8.new.keep fun b k1 k2=>?_).le ?_ (Nat.le_refl _))) (by omega) (by omega))
            · simp at k1
              have z1:¬ b=w:=by omega
              have o8:=hG8.old b (by simp;omega) (by omega)
              have o7:=hG7.old b (by simp;omega) (by omega)
              simp[z1] at o8 o7 ⊢
              exact o8.trans o7
            · simp;omega
            · simp at k1
              have z1:¬ b=w:=by omega
              simp[z1]
            · simp;omega
          · intro X9 S9 E9 hE9 hA9 hB9 hs9
            rw[hE9]
            have S9_n:=hs9.n
            have S9_gl:=hs9.gl
            have S9_md:=hs9.md
            have S9_nx:=hs9.nx
            have S9_v:=hB9 v (.inl (by omega)) (by omega)
            have S9_R:=hB9 R (.inl (by omega)) (by omega)
            simp[nRw,nvw,S8_n,S8_gl,S8_md,S8_rd,v_S8] at S9_n S9_gl S9_md S9_nx S9_v S9_R
            obtain⟨z1,z2,z3⟩:=hA9.one
            simp[nRv,h0,h3,h4,S9_n,S9_v,S9_R,z1,z2]
            refine⟨⟨f2,j2+2,done2++[⟨wd ws i2,t2,true, .mk 7 0 (wd ws (j2+1)) [] []⟩],r2,c2,by simpa using hL2,by omega,X9,?_,?_,?_,by omega,rfl⟩,rdMu_lt hrd2 (j:=j2+2) (b':=false) (by simp[nRv,S9_R];try omega) (by omega) (by omega)⟩
            · have e9:shs [.d (.string (wd ws i2)),ta,tb,tc, .d (.bool true),va,vb,vc,vd,ve]=Arg.sz ⟨wd ws i2,t2,true, .mk 7 0 (wd ws (j2+1)) [] []⟩:=by
                simp[Arg.sz, ← hT6, ← hV8,shs,Ld.sh]
              rw[rows_add, ← e9]
              have h9:=hA9.keep (S':=S9.set v [.d (dS (wd ws i)),X9, .d (dS ⟨#[]⟩), .fl [] 0, .d (dB false)]) (lo':=v+1) (hi':=S9.nx) (fun b k1 k2=>by simp[show ¬ b=v by omega]) (Nat.le_refl _) (by omega)
              simpa using h9
            · intro y k1 k2
              have z1:¬ y=v:=by omega
              have z2:¬ y=w:=by omega
              have a9:=hB9 y (.inl (by omega)) (by omega)
              simp[z2] at a9
              rw[if_neg z1,a9]
              exact ((S8_o y (by omega) k2).trans (by rw[hSr2])).trans (hrO2 y k1 k2)
            · intro y k1
              have a9:=congrFun hs9.T y
              simp at a9
              rw[a9]
              exact ((S8_t y (by omega)).trans (by rw[hSr2])).trans (hrT2 y k1)
        case' inr =>
          have d1':=d1
          simp[h4,nvw,S6_n,S6_md,v_S6,d1]
          refine OpT_addZ2 (e:=118) (by_:=152) (lo2:=N2) (hi2:=S6.nx) [.d (.string (wd ws i2)),ta,tb,tc, .d (.bool false), .d (.int .i64 0), .d (.int .i64 0), .d (.string ⟨#[]⟩), .nil, .nil] (by kernel_rfl) hA2 (rowsZ_len (fun x=>by simp) _) (by unfold appBound;omega) rfl rfl (by omega) (by omega) (by omega) (by omega) ?_ ?_ ?_
          · intro b k1 k2
            have z1:¬ b=w:=by omega
            simp[z1]
            exact (S6_o b (by omega) (by omega)).trans (by rw[hSr2])
          · refine .cons_d (.app (a:=[ta,tb,tc]) (mid:=S6.nx) ((hG6.new.keep fun b k1 k2=>?_).le ?_ (Nat.le_refl _)) (.cons_d (.cons_d (.cons_d (.cons_d (.cons_nil (.cons_nil .nil)))))) (by omega) (by omega))
            · simp at k1
              have z1:¬ b=w:=by omega
              simp[z1]
            · simp;omega
          · intro X9 S9 E9 hE9 hA9 hB9 hs9
            rw[hE9]
            have S9_n:=hs9.n
            have S9_gl:=hs9.gl
            have S9_md:=hs9.md
            have S9_nx:=hs9.nx
            have S9_v:=hB9 v (.inl (by omega)) (by omega)
            have S9_R:=hB9 R (.inl (by omega)) (by omega)
            simp[nRw,nvw,S6_n,S6_gl,S6_md,S6_rd,v_S6] at S9_n S9_gl S9_md S9_nx S9_v S9_R
            obtain⟨z1,z2,z3⟩:=hA9.one
            simp[nRv,h0,h3,h4,S9_n,S9_v,S9_R,z1,z2]
            refine⟨⟨f2,i3,done2++[⟨wd ws i2,t2,false,noVal⟩],r2,c2,by simpa using hL2,by omega,X9,?_,?_,?_,by omega,rfl⟩,rdMu_lt hrd2 (j:=i3) (b':=false) (by simp[nRv,S9_R];try omega) (by omega) (by omega)⟩
            · have e9:shs [.d (.string (wd ws i2)),ta,tb,tc, .d (.bool false), .d (.int .i64 0), .d (.int .i64 0), .d (.string ⟨#[]⟩), .nil, .nil]=Arg.sz ⟨wd ws i2,t2,false,noVal⟩:=by
                simp[Arg.sz, ← hT6,shs,Ld.sh,Val.sz,skT]
              rw[rows_add, ← e9]
              have h9:=hA9.keep (S':=S9.set v [.d (dS (wd ws i)),X9, .d (dS ⟨#[]⟩), .fl [] 0, .d (dB false)]) (lo':=v+1) (hi':=S9.nx) (fun b k1 k2=>by simp[show ¬ b=v by omega]) (Nat.le_refl _) (by omega)
              simpa using h9
            · intro y k1 k2
              have z1:¬ y=v:=by omega
              have z2:¬ y=w:=by omega
              have a9:=hB9 y (.inl (by omega)) (by omega)
              simp[z2] at a9
              rw[if_neg z1,a9]
              exact ((S6_o y (by omega) k2).trans (by rw[hSr2])).trans (hrO2 y k1 k2)
            · intro y k1
              have a9:=congrFun hs9.T y
              simp at a9
              rw[a9]
              exact ((S6_t y (by omega)).trans (by rw[hSr2])).trans (hrT2 y k1)
      have e2':=e2
      simp[h0,hn,e2]
      refine CallT.x (l_must _ R ws q' false ⟨#[41]⟩ (by simp;omega) (by simp[hrd2]) hl (by omega) e2') rfl (fun r4 S4 hG4=>?_)
      have S4_n:=hG4.n
      try simp[hn] at S4_n
      have S4_gl:=hG4.gl
      try simp[hg] at S4_gl
      have S4_md:=hG4.md
      try simp[hmd] at S4_md
      have S4_nx:=hG4.nx
      try simp at S4_nx
      have S4_rd:=hG4.rd
      have v_S4:=hG4.old v (by first | omega | (simp;omega)) (by omega)
      try simp[hBv] at v_S4
      have S4_o:∀ y,y<N→y≠R→S4.B y=Sr.B y:=fun y k1 k2=>by
        have a1:=hG4.old y (by first | omega | (simp;omega)) k2
        have y1:¬ y=v:=by omega
        try simp at a1
        exact a1.trans (hrO2 y k1 k2)
      have S4_t:∀ y,y<N→S4.T y=Sr.T y:=fun y k1=>by
        have a1:=hG4.T y (by first | omega | (simp;omega))
        try simp at a1
        exact a1.trans (hrT2 y k1)
      rw[List.append_nil] at hL2
      subst hL2
      have hlen0:¬ done2.length=0:=fun e=>b2 (List.eq_nil_of_length_eq_zero e)
      obtain⟨bY,rfl⟩:=hA2.pos hlen0
      simp[h0,h4,S4_n,v_S4,hlen0]
      refine callt_gen (Q:=fun S=>FldI S0 Sr S R N v ws (q'+1) (wd ws i) (.sk bY done2.length 10) done2) ⟨?_,?_,?_,?_,?_,?_,?_,?_,?_⟩ (fun Z hI=>?_)
      · simp[S4_n]
      · simp[S4_gl]
      · simp[S4_md]
      · simp;omega
      · simp[S4_rd]
      · simp[v_S4]
      · refine hA2.keep (fun b k1 k2=>?_) (Nat.le_refl _) (by simp;omega)
        have a4:=hG4.old b (by simp;omega) (by omega)
        simpa using a4
      · intro y k1 k2
        exact S4_o y k1 k2
      · intro y k1
        exact S4_t y k1
      generalize S4.nx=base
      obtain⟨lx,hlx⟩:∃ lx,lx=done2:=⟨_,rfl⟩
      obtain⟨qx,hqx⟩:∃ qx,qx=q'+1:=⟨_,rfl⟩
      obtain⟨Y,hY⟩:∃ Y,Y=SV.sk bY done2.length 10:=⟨_,rfl⟩
      rw[← hY, ← hlx, ← hqx] at hI
      rw[← hlx] at hL
      rw[← hqx] at a3 a4
    case' inr =>
      have b1':=b1
      simp[h0,S2_n,b1]
      refine callt_gen (Q:=fun S=>FldI S0 Sr S R N v ws (i+1) (wd ws i) (.fl [] 0) []) ⟨?_,?_,?_,?_,?_,?_,?_,?_,?_⟩ (fun Z hI=>?_)
      · simp[S2_n]
      · simp[S2_gl]
      · simp[S2_md]
      · simp;omega
      · simp[S2_rd,nRv]
      · simp
      · exact AccZ.nil
      · intro y k1 k2
        have z1:¬ y=v:=by omega
        simp[z1]
        exact S2_o y k1 k2
      · intro y k1
        exact S2_t y k1
      generalize S2.nx=base
      have h4:True:=trivial
      obtain⟨lx,hlx⟩:∃ lx:List Arg,lx=[]:=⟨_,rfl⟩
      obtain⟨qx,hqx⟩:∃ qx,qx=i+1:=⟨_,rfl⟩
      obtain⟨Y,hY⟩:∃ Y,Y=SV.fl [] 0:=⟨_,rfl⟩
      rw[← hY, ← hlx, ← hqx] at hI
      rw[← hlx] at hL
      rw[← hqx] at a3 a4
    all_goals
      obtain⟨I1,I2,I3,I4,I5,I6,I7,I8,I9⟩:=hI
      have ht4:=pTyp_le a4
      obtain⟨y1,y2,y3⟩:=I7.one
      refine CallT.x (l_must _ R ws qx false ⟨#[58]⟩ (by omega) (by simp[I5]) hl (by omega) a3) rfl (fun r5 S5 hG5=>?_)
      have S5_n:=hG5.n
      try simp[I1] at S5_n
      have S5_gl:=hG5.gl
      try simp[I2] at S5_gl
      have S5_md:=hG5.md
      try simp[I3] at S5_md
      have S5_nx:=hG5.nx
      try simp[S1_n,S1_gl,S1_md,S1_rd,h0,h3,hn,hg,hmd,hrd,e1,S2_n,S2_gl,S2_md,S2_rd,nRv,nvR,I1,I2,I3,I5,I6,y1,y2,y3,h0,h3,h4,S5_n,S5_gl,S5_md] at S5_nx
      have S5_rd:=hG5.rd
      have v_S5:=hG5.old v (by first | omega | (simp;omega)) (by omega)
      try simp[I6] at v_S5
      have S5_o:∀ y,y<N→y≠R→S5.B y=Sr.B y:=fun y k1 k2=>by
        have a1:=hG5.old y (by first | omega | (simp;omega)) k2
        have y1:¬ y=v:=by omega
        try simp[y1] at a1
        exact a1.trans (I8 y k1 k2)
      have S5_t:∀ y,y<N→S5.T y=Sr.T y:=fun y k1=>by
        have a1:=hG5.T y (by first | omega | (simp;omega))
        try simp at a1
        exact a1.trans (I9 y k1)
      simp[h0,S5_n]
      refine CallT.x (l_typ ws hl 3 _ R (qx+1) t i' a4 (by simp;omega) (by simp[S5_rd]) (by omega)) rfl (fun r6 S6 h6=>?_)
      obtain⟨T6,q6,hT6,hG6⟩:=h6
      subst q6
      have S6_n:=hG6.n
      try simp[S5_n] at S6_n
      have S6_gl:=hG6.gl
      try simp[S5_gl] at S6_gl
      have S6_md:=hG6.md
      try simp[S5_md] at S6_md
      have S6_nx:=hG6.nx
      try simp at S6_nx
      have S6_rd:=hG6.rd
      have v_S6:=hG6.old v (by first | omega | (simp;omega)) (by omega)
      try simp[v_S5] at v_S6
      have S6_o:∀ y,y<N→y≠R→S6.B y=Sr.B y:=fun y k1 k2=>by
        have a1:=hG6.old y (by first | omega | (simp;omega)) k2
        have y1:¬ y=v:=by omega
        try simp at a1
        exact a1.trans (S5_o y k1 k2)
      have S6_t:∀ y,y<N→S6.T y=Sr.T y:=fun y k1=>by
        have a1:=hG6.T y (by first | omega | (simp;omega))
        try simp at a1
        exact a1.trans (S5_t y k1)
      obtain⟨ta,tb,tc,rfl⟩:=three_of (by rw[← shs_len,hT6];simp:T6.length=3)
      simp[h3,h4,S6_n,S6_md,v_S6]
      obtain⟨xY,eY,shY,atY⟩:=I7
      refine OpT_addZ2 (e:=52) (by_:=88) (lo2:=N) (hi2:=S6.nx) [.d (.string (wd ws i)),xY,ta,tb,tc] (by kernel_rfl) hA (rowsZ_len (fun x=>by simp) _) (by unfold appBound;omega) (by rw[eY];rfl) rfl (by omega) (by omega) (by omega) (by omega) ?_ ?_ ?_
      · intro b k1 k2
        have z1:¬ b=v:=by omega
        simp[z1]
        exact (S6_o b (by omega) (by omega)).trans (by rw[hSr])
      · refine .cons_d (.app (a:=[xY]) (mid:=Z.nx) ((atY.keep fun b k1 k2=>?_).le (by omega) (Nat.le_refl _)) ((hG6.new.keep fun b k1 k2=>?_).le ?_ (Nat.le_refl _)) (by omega) (by omega))
        · have z1:¬ b=v:=by omega
          have o6:=hG6.old b (by simp;omega) (by omega)
          have o5:=hG5.old b (by omega) (by omega)
          simp[z1] at o6 o5 ⊢
          exact o6.trans o5
        · simp at k1
          have z1:¬ b=v:=by omega
          simp[z1]
        · simp;omega
      · intro X9 S9 E9 hE9 hA9 hB9 hs9
        rw[hE9]
        have S9_n:=hs9.n
        have S9_gl:=hs9.gl
        have S9_md:=hs9.md
        have S9_nx:=hs9.nx
        have S9_R:=hB9 R (.inl (by omega)) (by omega)
        simp[nRv,S6_n,S6_gl,S6_md,S6_rd] at S9_n S9_gl S9_md S9_nx S9_R
        simp[h0,S9_n,S9_R]
        refine⟨⟨f,i',done++[⟨wd ws i,lx,t⟩],rest',hpf',by simpa using hL,rfl,X9,?_,?_,?_,by omega,rfl⟩,rdMu_lt hrd (j:=i') (b':=false) (by simp[S9_R]) (by omega) (by omega)⟩
        · have e9:shs [.d (.string (wd ws i)),xY,ta,tb,tc]=Fld.sz ⟨wd ws i,lx,t⟩:=by
            simp[Fld.sz, ← hT6,shs,Ld.sh,shY]
          rw[rows_add, ← e9]
          have h9:=hA9.keep (S':=S9) (lo':=u) (hi':=S9.nx) (fun b k1 k2=>rfl) (Nat.le_refl _) (by omega)
          simpa using h9
        · intro y k1 k2
          have z1:¬ y=v:=by omega
          have a9:=hB9 y (.inl (by omega)) (by omega)
          simp[z1] at a9
          rw[a9]
          exact (S6_o y (by omega) k2).trans ((by rw[hSr]:Sr.B y=_).trans (ho y k1 k2))
        · intro y k1
          have a9:=congrFun hs9.T y
          simp at a9
          rw[a9]
          exact (S6_t y (by omega)).trans ((by rw[hSr]:Sr.T y=_).trans (hT y k1))
theorem txK_len (l:List ByteArray):(txK l).length=l.length*1:=by
  induction l with
  | nil=>rfl
  | cons x r ih=>simp[txK] at ih ⊢
theorem txK_add (l:List ByteArray) (s:ByteArray):txK (l++[s])=txK l++[.d (.string s)]:=by simp[txK]
set_option maxHeartbeats 16000000 in
theorem l_def (ws:List ByteArray) (hl:ws.length≤1048576) (S0:St) (R i0 j:Nat) (d:Def) (hp:pDef ws i0=some (d,j)) (hR:R<S0.nx) (h:S0.B R=some (rdC ws i0 false)) :
    ∃ r S',LCall Tryz.prog 170 [.op R 0] S0 r S'∧∃ X,r=.ag (svs X)∧shs X=Def.sz d∧Got S0 S' R (rdC ws j false) X:=by
  have hj:=pDef_le hp
  obtain⟨hn0,hbd⟩:=pDef_some hp
  have hn1:=nameB_lt hn0
  refine LCall.ex_ (md:=[1000045,1000059,1000078]) Tryz.func170 rfl (by kernel_rfl) (by kernel_rfl) (n:=82) Tryz.ntmps170 (by simp) (by decide) rfl ?_
  simp
  generalize hu:S0.nx=u at *
  have n1:¬ R=u:=by omega
  have n2:¬ u=R:=by omega
  refine CallT.x (l_next _ R ws i0 false (by simp;omega) (by simp[n1,h]) hl (by omega)) rfl (fun r1 S1 h1=>?_)
  obtain⟨q1,hG1⟩:=h1
  subst q1
  obtain⟨N,hN⟩:∃ N,u=N:=⟨_,rfl⟩
  obtain⟨Sr,hSr⟩:∃ Sr,S0=Sr:=⟨_,rfl⟩
  have hrO:∀ y,y<N→y≠R→S0.B y=Sr.B y:=fun y _ _=>by rw[hSr]
  have hrT:∀ y,y<N→S0.T y=Sr.T y:=fun y _=>by rw[hSr]
  have S1_n:=hG1.n
  try simp at S1_n
  have S1_gl:=hG1.gl
  try simp at S1_gl
  have S1_md:=hG1.md
  try simp at S1_md
  have S1_nx:=hG1.nx
  try simp at S1_nx
  have S1_rd:=hG1.rd
  have u_S1:=hG1.old u (by first | omega | (simp;omega)) (by omega)
  try simp at u_S1
  have S1_o:∀ y,y<N→y≠R→S1.B y=Sr.B y:=fun y k1 k2=>by
    have a1:=hG1.old y (by first | omega | (simp;omega)) k2
    have y1:¬ y=u:=by omega
    try simp[y1] at a1
    exact a1.trans (hrO y k1 k2)
  have S1_t:∀ y,y<N→S1.T y=Sr.T y:=fun y k1=>by
    have a1:=hG1.T y (by first | omega | (simp;omega))
    try simp at a1
    exact a1.trans (hrT y k1)
  simp[S1_n]
  refine CallT.x (l_name _ R ws (i0+1) false (by simp;omega) (by simp[S1_rd]) hl (by omega) hn0 (by have:=nameB_size hn0;omega)) rfl (fun r2 S2 h2=>?_)
  obtain⟨q2,hG2⟩:=h2
  subst q2
  have S2_n:=hG2.n
  try simp[S1_n] at S2_n
  have S2_gl:=hG2.gl
  try simp[S1_gl] at S2_gl
  have S2_md:=hG2.md
  try simp[S1_md] at S2_md
  have S2_nx:=hG2.nx
  try simp at S2_nx
  have S2_rd:=hG2.rd
  have u_S2:=hG2.old u (by first | omega | (simp;omega)) (by omega)
  try simp[u_S1] at u_S2
  have S2_o:∀ y,y<N→y≠R→S2.B y=Sr.B y:=fun y k1 k2=>by
    have a1:=hG2.old y (by first | omega | (simp;omega)) k2
    have y1:¬ y=u:=by omega
    try simp at a1
    exact a1.trans (S1_o y k1 k2)
  have S2_t:∀ y,y<N→S2.T y=Sr.T y:=fun y k1=>by
    have a1:=hG2.T y (by first | omega | (simp;omega))
    try simp at a1
    exact a1.trans (S1_t y k1)
  simp[S2_n]
  obtain⟨v,hv⟩:∃ v,S1.nx+3=v:=⟨_,rfl⟩
  have n3:¬ R=v:=by omega
  have n4:¬ v=R:=by omega
  have n5:¬ u=v:=by omega
  have n6:¬ v=u:=by omega
  rw[hv]
  rcases pBody_some hbd with ⟨e1,e2,l,q,e3,rfl,rfl⟩ | ⟨e1,e2,l,q,e3,rfl,rfl⟩ | ⟨e1,e2,l,q,e3,rfl,rfl⟩ | ⟨e1,e2,e4,l,e3,rfl⟩
  · skip
    have hq:=pFlds_le e3
    simp[S2_n,e1,typeS]
    refine CallT.x (l_fields ws hl _ R (i0+2) q l e2 e3 (by simp;omega) (by simp[S2_rd,n3])) rfl (fun r3 S3 h3=>?_)
    obtain⟨x,q3,hx,hG3⟩:=h3
    subst q3
    obtain⟨x1,x2,x3⟩:=z_one hx
    have S3_n:=hG3.n
    try simp[S2_n] at S3_n
    have S3_gl:=hG3.gl
    try simp[S2_gl] at S3_gl
    have S3_md:=hG3.md
    try simp[S2_md] at S3_md
    have S3_nx:=hG3.nx
    try simp at S3_nx
    have S3_rd:=hG3.rd
    have u_S3:=hG3.old u (by first | omega | (simp;omega)) (by omega)
    try simp[u_S2,n5] at u_S3
    have v_S3:=hG3.old v (by first | omega | (simp;omega)) (by omega)
    try simp at v_S3
    have S3_o:∀ y,y<N→y≠R→S3.B y=Sr.B y:=fun y k1 k2=>by
      have a1:=hG3.old y (by first | omega | (simp;omega)) k2
      have y1:¬ y=u:=by omega
      have y2:¬ y=v:=by omega
      try simp[y2] at a1
      exact a1.trans (S2_o y k1 k2)
    have S3_t:∀ y,y<N→S3.T y=Sr.T y:=fun y k1=>by
      have a1:=hG3.T y (by first | omega | (simp;omega))
      try simp at a1
      exact a1.trans (S2_t y k1)
    simp[n5,S3_n,S3_gl,u_S3,v_S3,x1,x2]
    refine⟨[.d (.string (wd ws (i0+1))), .d (.int .i64 1),x, .nil],rfl,by simp[shs,Ld.sh,hx,Def.sz,skT],rfl,rfl,rfl,by simp;omega,by simp[n1,n3,S3_rd],?_,?_,?_⟩
    · intro y k1 k2
      have z1:¬ y=u:=by omega
      have z2:¬ y=v:=by omega
      simp[z1,z2]
      exact (S3_o y (by omega) k2).trans (by rw[hSr])
    · intro y k1
      exact (S3_t y (by omega)).trans (by rw[hSr])
    · refine .cons_d (.cons_d (.app (a:=[x]) (mid:=S3.nx) ((hG3.new.keep fun b k1 k2=>?_).le ?_ (Nat.le_refl _)) (.cons_nil .nil) (by omega) (by simp)))
      · simp at k1
        have z1:¬ b=u:=by omega
        have z2:¬ b=v:=by omega
        simp[z1,z2]
      · simp;omega
  · skip
    have hq:=pFlds_le e3
    simp[S2_n,e1,inputS]
    refine CallT.x (l_fields ws hl _ R (i0+2) q l e2 e3 (by simp;omega) (by simp[S2_rd,n3])) rfl (fun r3 S3 h3=>?_)
    obtain⟨x,q3,hx,hG3⟩:=h3
    subst q3
    obtain⟨x1,x2,x3⟩:=z_one hx
    have S3_n:=hG3.n
    try simp[S2_n] at S3_n
    have S3_gl:=hG3.gl
    try simp[S2_gl] at S3_gl
    have S3_md:=hG3.md
    try simp[S2_md] at S3_md
    have S3_nx:=hG3.nx
    try simp at S3_nx
    have S3_rd:=hG3.rd
    have u_S3:=hG3.old u (by first | omega | (simp;omega)) (by omega)
    try simp[u_S2,n5] at u_S3
    have v_S3:=hG3.old v (by first | omega | (simp;omega)) (by omega)
    try simp at v_S3
    have S3_o:∀ y,y<N→y≠R→S3.B y=Sr.B y:=fun y k1 k2=>by
      have a1:=hG3.old y (by first | omega | (simp;omega)) k2
      have y1:¬ y=u:=by omega
      have y2:¬ y=v:=by omega
      try simp[y2] at a1
      exact a1.trans (S2_o y k1 k2)
    have S3_t:∀ y,y<N→S3.T y=Sr.T y:=fun y k1=>by
      have a1:=hG3.T y (by first | omega | (simp;omega))
      try simp at a1
      exact a1.trans (S2_t y k1)
    simp[n5,S3_n,S3_gl,u_S3,v_S3,x1,x2]
    refine⟨[.d (.string (wd ws (i0+1))), .d (.int .i64 3),x, .nil],rfl,by simp[shs,Ld.sh,hx,Def.sz,skT],rfl,rfl,rfl,by simp;omega,by simp[n1,n3,S3_rd],?_,?_,?_⟩
    · intro y k1 k2
      have z1:¬ y=u:=by omega
      have z2:¬ y=v:=by omega
      simp[z1,z2]
      exact (S3_o y (by omega) k2).trans (by rw[hSr])
    · intro y k1
      exact (S3_t y (by omega)).trans (by rw[hSr])
    · refine .cons_d (.cons_d (.app (a:=[x]) (mid:=S3.nx) ((hG3.new.keep fun b k1 k2=>?_).le ?_ (Nat.le_refl _)) (.cons_nil .nil) (by omega) (by simp)))
      · simp at k1
        have z1:¬ b=u:=by omega
        have z2:¬ b=v:=by omega
        simp[z1,z2]
      · simp;omega
  · skip
    have hq:=pWds_le e3
    simp[S2_n,e1,enumS]
    refine CallT.x (l_must _ R ws (i0+2) false ⟨#[123]⟩ (by simp;omega) (by simp[S2_rd,n3]) hl (by omega) e2) rfl (fun r3 S3 hG3=>?_)
    have S3_n:=hG3.n
    try simp[S2_n] at S3_n
    have S3_gl:=hG3.gl
    try simp[S2_gl] at S3_gl
    have S3_md:=hG3.md
    try simp[S2_md] at S3_md
    have S3_nx:=hG3.nx
    try simp at S3_nx
    have S3_rd:=hG3.rd
    have u_S3:=hG3.old u (by first | omega | (simp;omega)) (by omega)
    try simp[u_S2,n5] at u_S3
    have v_S3:=hG3.old v (by first | omega | (simp;omega)) (by omega)
    try simp at v_S3
    have S3_o:∀ y,y<N→y≠R→S3.B y=Sr.B y:=fun y k1 k2=>by
      have a1:=hG3.old y (by first | omega | (simp;omega)) k2
      have y1:¬ y=u:=by omega
      have y2:¬ y=v:=by omega
      try simp[y2] at a1
      exact a1.trans (S2_o y k1 k2)
    have S3_t:∀ y,y<N→S3.T y=Sr.T y:=fun y k1=>by
      have a1:=hG3.T y (by first | omega | (simp;omega))
      try simp at a1
      exact a1.trans (S2_t y k1)
    simp
    refine LoopT.round (fun E S=>∃ (f:Nat) (i:Nat) (done:List ByteArray) (rest:List ByteArray) (Y:SV),(pWds ws f i=some (rest,q))∧(done++rest=l)∧(S.B R=some (rdC ws i false))∧(AccZ S (v+1) S.nx 1 done.length (txK done) Y)∧(∀ y,y<N→y≠R→S.B y=Sr.B y)∧(∀ y,y<N→S.T y=Sr.T y)∧(v+1≤S.nx)∧(S.B u=some [.d (dS ⟨#[]⟩), .d (dI 0), .fl [] 0, .fl [] 0])∧(S.B v=some [.d (dS (wd ws (i0+1))), .d (dI 2), .fl [] 0,Y])∧E 0=some (.op R 0)∧E 2=some (.op u 0)∧E 4=some (.op v 0)) (rdMu R ws.length) ⟨ws.length,i0+3,[],l, .fl [] 0,by simp[S3_rd,u_S3,v_S3];exact⟨e3,AccZ.nil,S3_o,S3_t,by omega⟩⟩ ?_
    rintro E S hk ⟨f,i,done,rest,Y,hpf,hL,hrd,hA,hrO2,hrT2,hnx,hBu,hBv,h0,h2,h4⟩
    have hn:S.n=82:=by first | (simpa using hk.n)|(have hh:=hk.n;simp[S3_n] at hh;exact hh)
    have hg:S.gl=S0.gl:=by first | (simpa using hk.gl)|(have hh:=hk.gl;simp[S3_gl] at hh;exact hh)
    have hmd:S.md=[1000045,1000059,1000078]:=by first | (simpa using hk.md)|(have hh:=hk.md;simp[S3_md] at hh;exact hh)
    simp[h0,hn]
    obtain⟨f,rfl⟩:∃ g,f=g+1:=by
      cases f with
      | zero=>cases hpf
      | succ g=>exact⟨g,rfl⟩
    have hle:=pWds_le hpf
    have hdl:done.length≤ws.length:=by
      have:=pWds_len e3
      rw[← hL] at this
      simp at this
      omega
    obtain⟨y1,y2,y3⟩:=hA.one
    refine CallT.l (l_peek (ws:=ws) (i:=i) (bad:=false) (by simp[hrd]) hl (by omega)) rfl ?_
    rcases pWds_some hpf with ⟨e4,rfl,rfl⟩ | ⟨e4,e5,r',hpf',rfl⟩
    · have e4':=e4
      simp[h0,hn,e4]
      refine CallT.x (l_must _ R ws q false ⟨#[125]⟩ (by simp;omega) (by simp[hrd]) hl (by omega) e4') rfl (fun r5 S5 hG5=>?_)
      have S5_n:=hG5.n
      try simp[hn] at S5_n
      have S5_gl:=hG5.gl
      try simp[hg] at S5_gl
      have S5_md:=hG5.md
      try simp[hmd] at S5_md
      have S5_nx:=hG5.nx
      try simp at S5_nx
      have S5_rd:=hG5.rd
      have u_S5:=hG5.old u (by first | omega | (simp;omega)) (by omega)
      try simp[hBu] at u_S5
      have v_S5:=hG5.old v (by first | omega | (simp;omega)) (by omega)
      try simp[hBv] at v_S5
      have S5_o:∀ y,y<N→y≠R→S5.B y=Sr.B y:=fun y k1 k2=>by
        have a1:=hG5.old y (by first | omega | (simp;omega)) k2
        have y1:¬ y=u:=by omega
        have y2:¬ y=v:=by omega
        try simp at a1
        exact a1.trans (hrO2 y k1 k2)
      have S5_t:∀ y,y<N→S5.T y=Sr.T y:=fun y k1=>by
        have a1:=hG5.T y (by first | omega | (simp;omega))
        try simp at a1
        exact a1.trans (hrT2 y k1)
      simp[h2,h4,S5_n,S5_gl,u_S5,v_S5]
      obtain⟨x,rfl,x2,x3⟩:=hA
      rw[List.append_nil] at hL
      subst hL
      refine⟨[.d (.string (wd ws (i0+1))), .d (.int .i64 2), .nil,x],rfl,by simp[shs,Ld.sh,x2,Def.sz,skT],rfl,rfl,rfl,by simp;omega,by simp[n1,S5_rd],?_,?_,?_⟩
      · intro y k1 k2
        have z1:¬ y=u:=by omega
        have z2:¬ y=v:=by omega
        simp[z1]
        exact (S5_o y (by omega) k2).trans (by rw[hSr])
      · intro y k1
        exact (S5_t y (by omega)).trans (by rw[hSr])
      · refine .cons_d (.cons_d (.cons_nil ((x3.keep fun b k1 k2=>?_).le (by omega) (by simp;omega))))
        have z1:¬ b=u:=by omega
        have o5:=hG5.old b (by simp;omega) (by omega)
        simp[z1] at o5 ⊢
        exact o5
    · skip
      simp[h0,h4,hn,hrd,hBv,e4]
      refine⟨DrawT.mk (by kernel_rfl),?_⟩
      obtain⟨r4,S4,hL4,q4,hG4⟩:=l_name ((S.adv 10).adv 8) R ws i false (by simp;omega) (by simp[hrd]) hl (by omega) e5 (by have:=nameB_size e5;omega)
      subst q4
      have S4_n:=hG4.n
      try simp[hn] at S4_n
      have S4_gl:=hG4.gl
      try simp[hg] at S4_gl
      have S4_md:=hG4.md
      try simp[hmd] at S4_md
      have S4_nx:=hG4.nx
      try simp at S4_nx
      have S4_rd:=hG4.rd
      have u_S4:=hG4.old u (by first | omega | (simp;omega)) (by omega)
      try simp[hBu] at u_S4
      have v_S4:=hG4.old v (by first | omega | (simp;omega)) (by omega)
      try simp[hBv] at v_S4
      have S4_o:∀ y,y<N→y≠R→S4.B y=Sr.B y:=fun y k1 k2=>by
        have a1:=hG4.old y (by first | omega | (simp;omega)) k2
        have y1:¬ y=u:=by omega
        have y2:¬ y=v:=by omega
        try simp at a1
        exact a1.trans (hrO2 y k1 k2)
      have S4_t:∀ y,y<N→S4.T y=Sr.T y:=fun y k1=>by
        have a1:=hG4.T y (by first | omega | (simp;omega))
        try simp at a1
        exact a1.trans (hrT2 y k1)
      refine CallT.calm [((1,4),3)] (by kernel_rfl) (by kernel_rfl) hL4 (by simp[h4,hBv,v_S4,Eh.e,refOf]) ?_
      simp[S4_n,S4_md]
      refine OpT_addZ2 (e:=9) (by_:=16) (lo2:=S.nx) (hi2:=S.nx) [.d (.string (wd ws i))] (by kernel_rfl) hA (txK_len _) (by unfold appBound;omega) rfl rfl (by omega) (by omega) (by omega) (by omega) ?_ (.cons_d .nil) ?_
      · intro b k1 k2
        have o4:=hG4.old b (by simp;omega) (by omega)
        simpa using o4
      · intro X9 S9 E9 hE9 hA9 hB9 hs9
        rw[hE9]
        have S9_n:=hs9.n
        have S9_gl:=hs9.gl
        have S9_md:=hs9.md
        have S9_nx:=hs9.nx
        have S9_R:=hB9 R (.inl (by omega)) (by omega)
        have S9_u:=hB9 u (.inl (by omega)) (by omega)
        have S9_v:=hB9 v (.inl (by omega)) (by omega)
        simp[S4_n,S4_gl,S4_md,S4_rd,u_S4,v_S4] at S9_n S9_gl S9_md S9_nx S9_R S9_u S9_v
        obtain⟨z1,z2,z3⟩:=hA9.one
        simp[n3,n5,h0,h2,h4,S9_n,S9_R,S9_u,S9_v,z1,z2]
        refine⟨⟨f,i+1,done++[wd ws i],r',hpf',by simpa using hL,by simp,X9,?_,?_,?_,by omega,rfl⟩,rdMu_lt hrd (j:=i+1) (b':=false) (by simp[n3,S9_R]) (by omega) (by omega)⟩
        · rw[txK_add]
          have h9:=hA9.keep (S':=S9.set v [.d (dS (wd ws (i0+1))), .d (dI 2), .fl [] 0,X9]) (lo':=v+1) (hi':=S9.nx) (fun b k1 k2=>by simp[show ¬ b=v by omega]) (Nat.le_refl _) (by omega)
          simpa[shs,Ld.sh] using h9
        · intro y k1 k2
          have z1:¬ y=v:=by omega
          have a9:=hB9 y (.inl (by omega)) (by omega)
          rw[if_neg z1,a9]
          exact S4_o y k1 k2
        · intro y k1
          have a9:=congrFun hs9.T y
          rw[a9]
          exact S4_t y k1
  · skip
    have he4:=nameB_lt e4
    have hq:=pAlts_le (by omega) e3
    have hql:=pAlts_len e3
    simp[S2_n,e1,unionS]
    refine CallT.x (l_must _ R ws (i0+2) false ⟨#[61]⟩ (by simp;omega) (by simp[S2_rd,n3]) hl (by omega) e2) rfl (fun r3 S3 hG3=>?_)
    have S3_n:=hG3.n
    try simp[S2_n] at S3_n
    have S3_gl:=hG3.gl
    try simp[S2_gl] at S3_gl
    have S3_md:=hG3.md
    try simp[S2_md] at S3_md
    have S3_nx:=hG3.nx
    try simp at S3_nx
    have S3_rd:=hG3.rd
    have u_S3:=hG3.old u (by first | omega | (simp;omega)) (by omega)
    try simp[u_S2,n5] at u_S3
    have v_S3:=hG3.old v (by first | omega | (simp;omega)) (by omega)
    try simp at v_S3
    have S3_o:∀ y,y<N→y≠R→S3.B y=Sr.B y:=fun y k1 k2=>by
      have a1:=hG3.old y (by first | omega | (simp;omega)) k2
      have y1:¬ y=u:=by omega
      have y2:¬ y=v:=by omega
      try simp[y2] at a1
      exact a1.trans (S2_o y k1 k2)
    have S3_t:∀ y,y<N→S3.T y=Sr.T y:=fun y k1=>by
      have a1:=hG3.T y (by first | omega | (simp;omega))
      try simp at a1
      exact a1.trans (S2_t y k1)
    simp[S3_n,v_S3]
    refine⟨DrawT.mk (by kernel_rfl),?_⟩
    obtain⟨r4,S4,hL4,q4,hG4⟩:=l_name (S3.adv 8) R ws (i0+3) false (by simp;omega) (by simp[S3_rd]) hl (by omega) e4 (by have:=nameB_size e4;omega)
    subst q4
    have S4_n:=hG4.n
    try simp[S3_n] at S4_n
    have S4_gl:=hG4.gl
    try simp[S3_gl] at S4_gl
    have S4_md:=hG4.md
    try simp[S3_md] at S4_md
    have S4_nx:=hG4.nx
    try simp at S4_nx
    have S4_rd:=hG4.rd
    have u_S4:=hG4.old u (by first | omega | (simp;omega)) (by omega)
    try simp[u_S3] at u_S4
    have v_S4:=hG4.old v (by first | omega | (simp;omega)) (by omega)
    try simp[v_S3] at v_S4
    have S4_o:∀ y,y<N→y≠R→S4.B y=Sr.B y:=fun y k1 k2=>by
      have a1:=hG4.old y (by first | omega | (simp;omega)) k2
      have y1:¬ y=u:=by omega
      have y2:¬ y=v:=by omega
      try simp at a1
      exact a1.trans (S3_o y k1 k2)
    have S4_t:∀ y,y<N→S4.T y=Sr.T y:=fun y k1=>by
      have a1:=hG4.T y (by first | omega | (simp;omega))
      try simp at a1
      exact a1.trans (S3_t y k1)
    refine CallT.calm [((1,4),3)] (by kernel_rfl) (by kernel_rfl) hL4 (by simp[v_S3,v_S4,Eh.e,refOf]) ?_
    simp[S4_n,S4_md,v_S4]
    refine⟨by unfold appBound;omega,?_⟩
    have nv5:¬ v=S3.nx+5:=by omega
    have nu5:¬ u=S3.nx+5:=by omega
    have nR5:¬ R=S3.nx+5:=by omega
    simp[nv5]
    refine LoopT.round (fun E S=>∃ (f:Nat) (i:Nat) (done:List ByteArray) (rest:List ByteArray) (Y:SV),(pAlts ws f i=some (rest,j))∧(done++rest=wd ws (i0+3)::l)∧(S.B R=some (rdC ws i false))∧(AccZ S (v+1) S.nx 1 done.length (txK done) Y)∧(∀ y,y<N→y≠R→S.B y=Sr.B y)∧(∀ y,y<N→S.T y=Sr.T y)∧(v+1≤S.nx)∧(i≤ws.length)∧(S.B u=some [.d (dS ⟨#[]⟩), .d (dI 0), .fl [] 0, .fl [] 0])∧(S.B v=some [.d (dS (wd ws (i0+1))), .d (dI 4), .fl [] 0,Y])∧E 0=some (.op R 0)∧E 2=some (.op u 0)∧E 4=some (.op v 0)) (rdMu R ws.length) ⟨ws.length,i0+4,[wd ws (i0+3)],l, .sk (S3.nx+5) 1 1,by simp[n3,n5,S4_rd,u_S4,nu5,nR5];refine⟨e3,⟨.row (some 1) (S3.nx+5) 1 [.d (.string (wd ws (i0+3)))],rfl,row_sh rfl (by omega), .row (by simp[Ne.symm nv5]) (by omega) (by omega) (.cons_d .nil) (by simp[varsL,Ld.vars])⟩,fun y k1 k2=>?_,fun y k1=>S4_t y k1,by omega,by omega⟩;rw[if_neg (by omega),if_neg (by omega)];exact S4_o y k1 k2⟩ ?_
    rintro E S hk ⟨f,i,done,rest,Y,hpf,hL,hrd,hA,hrO2,hrT2,hnx,hil,hBu,hBv,h0,h2,h4⟩
    have hn:S.n=82:=by first | (simpa using hk.n)|(have hh:=hk.n;simp[S4_n] at hh;exact hh)
    have hg:S.gl=S0.gl:=by first | (simpa using hk.gl)|(have hh:=hk.gl;simp[S4_gl] at hh;exact hh)
    have hmd:S.md=[1000045,1000059,1000078]:=by first | (simpa using hk.md)|(have hh:=hk.md;simp[S4_md] at hh;exact hh)
    simp[h0,hn]
    obtain⟨f,rfl⟩:∃ g,f=g+1:=by
      cases f with
      | zero=>cases hpf
      | succ g=>exact⟨g,rfl⟩
    have hle:=pAlts_le hil hpf
    have hdl:done.length≤ws.length:=by
      have:=congrArg List.length hL
      simp at this
      omega
    obtain⟨y1,y2,y3⟩:=hA.one
    refine CallT.l (l_peek (ws:=ws) (i:=i) (bad:=false) (by simp[hrd]) hl (by omega)) rfl ?_
    rcases pAlts_some hpf with ⟨e5,rfl,rfl⟩ | ⟨e5,e6,r',hpf',rfl⟩
    · skip
      simp[h2,h4,hn,hg,hBu,hBv,e5]
      obtain⟨x,rfl,x2,x3⟩:=hA
      rw[List.append_nil] at hL
      subst hL
      refine⟨[.d (.string (wd ws (i0+1))), .d (.int .i64 4), .nil,x],rfl,by simp[shs,Ld.sh,x2,Def.sz,skT],rfl,rfl,rfl,by simp;omega,by simp[n1,hrd],?_,?_,?_⟩
      · intro y k1 k2
        have z1:¬ y=u:=by omega
        have z2:¬ y=v:=by omega
        simp[z1]
        exact (hrO2 y (by omega) k2).trans (by rw[hSr])
      · intro y k1
        exact (hrT2 y (by omega)).trans (by rw[hSr])
      · refine .cons_d (.cons_d (.cons_nil ((x3.keep fun b k1 k2=>?_).le (by omega) (by simp))))
        simp[show ¬ b=u by omega]
    · skip
      have he6:=nameB_lt e6
      simp[h0,hn,hrd,e5]
      refine CallT.x (l_next _ R ws i false (by simp;omega) (by simp[hrd]) hl (by omega)) rfl (fun r5 S5 hh=>?_)
      obtain⟨q5,hG5⟩:=hh
      subst q5
      have S5_n:=hG5.n
      try simp[hn] at S5_n
      have S5_gl:=hG5.gl
      try simp[hg] at S5_gl
      have S5_md:=hG5.md
      try simp[hmd] at S5_md
      have S5_nx:=hG5.nx
      try simp at S5_nx
      have S5_rd:=hG5.rd
      have u_S5:=hG5.old u (by first | omega | (simp;omega)) (by omega)
      try simp[hBu] at u_S5
      have v_S5:=hG5.old v (by first | omega | (simp;omega)) (by omega)
      try simp[hBv] at v_S5
      have S5_o:∀ y,y<N→y≠R→S5.B y=Sr.B y:=fun y k1 k2=>by
        have a1:=hG5.old y (by first | omega | (simp;omega)) k2
        have y1:¬ y=u:=by omega
        have y2:¬ y=v:=by omega
        try simp at a1
        exact a1.trans (hrO2 y k1 k2)
      have S5_t:∀ y,y<N→S5.T y=Sr.T y:=fun y k1=>by
        have a1:=hG5.T y (by first | omega | (simp;omega))
        try simp at a1
        exact a1.trans (hrT2 y k1)
      simp[h0,h4,e5,S5_n,v_S5]
      refine⟨DrawT.mk (by kernel_rfl),?_⟩
      obtain⟨r6,S6,hL6,q6,hG6⟩:=l_name (S5.adv 8) R ws (i+1) false (by simp;omega) (by simp[S5_rd]) hl (by omega) e6 (by have:=nameB_size e6;omega)
      subst q6
      have S6_n:=hG6.n
      try simp[S5_n] at S6_n
      have S6_gl:=hG6.gl
      try simp[S5_gl] at S6_gl
      have S6_md:=hG6.md
      try simp[S5_md] at S6_md
      have S6_nx:=hG6.nx
      try simp at S6_nx
      have S6_rd:=hG6.rd
      have u_S6:=hG6.old u (by first | omega | (simp;omega)) (by omega)
      try simp[u_S5] at u_S6
      have v_S6:=hG6.old v (by first | omega | (simp;omega)) (by omega)
      try simp[v_S5] at v_S6
      have S6_o:∀ y,y<N→y≠R→S6.B y=Sr.B y:=fun y k1 k2=>by
        have a1:=hG6.old y (by first | omega | (simp;omega)) k2
        have y1:¬ y=u:=by omega
        have y2:¬ y=v:=by omega
        try simp at a1
        exact a1.trans (S5_o y k1 k2)
      have S6_t:∀ y,y<N→S6.T y=Sr.T y:=fun y k1=>by
        have a1:=hG6.T y (by first | omega | (simp;omega))
        try simp at a1
        exact a1.trans (S5_t y k1)
      refine CallT.calm [((1,4),3)] (by kernel_rfl) (by kernel_rfl) hL6 ?_ ?_
      · simp[h4,v_S5,v_S6,Eh.e,refOf]
      simp[S6_n,S6_md]
      refine OpT_addZ2 (e:=9) (by_:=16) (lo2:=S.nx) (hi2:=S.nx) [.d (.string (wd ws (i+1)))] (by kernel_rfl) hA (txK_len _) (by unfold appBound;omega) rfl rfl (by omega) (by omega) (by omega) (by omega) ?_ (.cons_d .nil) ?_
      · intro b k1 k2
        have o6:=hG6.old b (by simp;omega) (by omega)
        have o5:=hG5.old b (by simp;omega) (by omega)
        simp at o6 o5
        exact o6.trans o5
      · intro X9 S9 E9 hE9 hA9 hB9 hs9
        rw[hE9]
        have S9_n:=hs9.n
        have S9_gl:=hs9.gl
        have S9_md:=hs9.md
        have S9_nx:=hs9.nx
        have S9_R:=hB9 R (.inl (by omega)) (by omega)
        have S9_u:=hB9 u (.inl (by omega)) (by omega)
        have S9_v:=hB9 v (.inl (by omega)) (by omega)
        simp[S6_n,S6_gl,S6_md,S6_rd,u_S6,v_S6] at S9_n S9_gl S9_md S9_nx S9_R S9_u S9_v
        obtain⟨z1,z2,z3⟩:=hA9.one
        simp[n3,n5,h0,h2,h4,S9_n,S9_R,S9_u,S9_v,z1,z2]
        refine⟨⟨f,i+2,done++[wd ws (i+1)],r',hpf',by simpa using hL,by omega,X9,?_,?_,?_,by omega,by omega,rfl⟩,rdMu_lt hrd (j:=i+2) (b':=false) (by simp[n3,S9_R]) (by omega) (by omega)⟩
        · rw[txK_add]
          have h9:=hA9.keep (S':=S9.set v [.d (dS (wd ws (i0+1))), .d (dI 4), .fl [] 0,X9]) (lo':=v+1) (hi':=S9.nx) (fun b k1 k2=>by simp[show ¬ b=v by omega]) (Nat.le_refl _) (by omega)
          simpa[shs,Ld.sh] using h9
        · intro y k1 k2
          have z1:¬ y=v:=by omega
          have a9:=hB9 y (.inl (by omega)) (by omega)
          rw[if_neg z1,a9]
          exact S6_o y k1 k2
        · intro y k1
          have a9:=congrFun hs9.T y
          rw[a9]
          exact S6_t y k1
structure Got0 (S S':St) (X:List Ld):Prop where
  n:S'.n=S.n
  gl:S'.gl=S.gl
  md:S'.md=S.md
  nx:S.nx≤S'.nx
  old:∀ x,x<S.nx→S'.B x=S.B x
  T:∀ x,x<S.nx→S'.T x=S.T x
  new:At S' S.nx S'.nx X
theorem frz_at {S:St}{lo hi:Nat}{x:Ld} (h:At S lo hi [x]):mapO (frz S.B (x.sh.dep+1)) [x.sv]=some [x.sh.data]:=by
  have:=(frz_ld (B:=S.B) x (x.sh.dep+1) (fun p hp=>h.has p (by simpa[varsL] using hp)) (by omega)).1
  simp[mapO,this]
set_option maxHeartbeats 16000000 in
theorem l_get (lt:List UInt8) (hpl:lt.all plainU=true) (hln:lt.length≤1500) (ws:List ByteArray) (hws:(wordsL lt).map bs=ws) (hl:ws.length≤1048576) (L:List Def) (hp:pDefs ws ws.length 0=some L) (hck:checkB L=0) (hsm:∀ d∈L,DefSm d) (S0:St) :
    ∃ r S',LCall Tryz.prog 124 [.d (dS (bs lt))] S0 r S'∧∃ x:Ld,r=.tu [x.sv, .d (dB true)]∧x.sh=skDefs L∧Got0 S0 S' [x]:=by
  have hW:=p_Words (gl:=S0.gl) lt (List.all_eq_true.1 hpl) hln
  rw[hws] at hW
  have hLl:=pDefs_len (Nat.zero_le _) hp
  refine LCall.ex_ (md:=[1000040]) Tryz.func124 rfl (by kernel_rfl) (by kernel_rfl) (n:=53) Tryz.ntmps124 (by simp) (by decide) rfl ?_
  simp
  repeat refine⟨DrawT.mk (by kernel_rfl),?_⟩
  refine CallT.p0 (hW) (by first | rfl | (simp;done)|(simp;done)) (by first | rfl | (simp;done)|(simp;rfl)|(simp;done)) ?_
  simp
  obtain⟨R,hR⟩:∃ R,S0.nx+2+7+2+2=R:=⟨_,rfl⟩
  rw[hR]
  refine LoopT.round (fun E S=>∃ (f:Nat) (i:Nat) (done:List Def) (rest:List Def) (X:SV),(pDefs ws f i=some rest)∧(done++rest=L)∧(S.B R=some (rdC ws i false))∧(AccZ S (R+1) S.nx 4 done.length (rowsZ Def.sz done) X)∧(∀ y,y<S0.nx→S.B y=S0.B y)∧(∀ y,y<S0.nx→S.T y=S0.T y)∧(R+1≤S.nx)∧(i≤ws.length)∧E 6=some (.op R 0)∧E 7=some (X)) (rdMu R ws.length) ⟨ws.length,0,[],L, .fl [] 0,by simp;refine⟨hp,AccZ.nil,fun y k1=>fun e=>by omega,by omega⟩⟩ ?_
  rintro E S hk ⟨f,i,done,rest,X,hpf,hL,hrd,hA,ho,hT,hnx,hil,h6,h7⟩
  have hn:S.n=53:=by first | (simpa using hk.n)|(have hh:=hk.n;simp at hh;exact hh)
  have hg:S.gl=S0.gl:=by first | (simpa using hk.gl)|(have hh:=hk.gl;simp at hh;exact hh)
  have hmd:S.md=[1000040]:=by first | (simpa using hk.md)|(have hh:=hk.md;simp at hh;exact hh)
  simp[h6,hn]
  obtain⟨f,rfl⟩:∃ g,f=g+1:=by
    cases f with
    | zero=>cases hpf
    | succ g=>exact⟨g,rfl⟩
  simp[h6,hn,hg,hrd]
  refine⟨DrawT.mk (by kernel_rfl),?_⟩
  rcases pDefs_some hpf with ⟨e1,rfl⟩ | ⟨e1,d,j,r',e2,hpf',rfl⟩
  · have e3:¬ i<ws.length:=by omega
    simp[h6,h7,hn,hrd,e3]
    rw[List.append_nil] at hL
    subst hL
    obtain⟨x,rfl,x2,x3⟩:=hA
    have hx:x.sh=skDefs done:=x2
    have hfz:=frz_at x3
    rw[hx,skDefs_data] at hfz
    refine CallT.l (LCall.ofP (p_spCheck done (by omega) hsm) (by simpa using hfz)) rfl ?_
    simp[h7,hn,hg,hck]
    refine⟨x,rfl,hx,rfl,rfl,rfl,by simp;omega,fun y k1=>?_,fun y k1=>?_,?_⟩
    · simpa using ho y k1
    · simpa using hT y k1
    · exact (x3.keep fun b k1 k2=>by simp).le (by omega) (by simp)
  · skip
    have hdl:=pDef_le e2
    simp[h6,h7,hn,hrd,e1]
    refine CallT.x (l_def ws hl _ R i j d e2 (by simp;omega) (by simp[hrd])) rfl (fun r1 S1 h1=>?_)
    obtain⟨D1,q1,hD1,hG1⟩:=h1
    subst q1
    obtain⟨da,db,dc,dd,rfl⟩:∃ a b c d,D1=[a,b,c,d]:=by
      have h4:D1.length=4:=by rw[← shs_len,hD1];simp
      match D1,h4 with
      | [a,b,c,d],_=>exact⟨a,b,c,d,rfl⟩
    have S1_n:=hG1.n
    try simp[hn] at S1_n
    have S1_gl:=hG1.gl
    try simp[hg] at S1_gl
    have S1_md:=hG1.md
    try simp[hmd] at S1_md
    have S1_nx:=hG1.nx
    try simp at S1_nx
    have S1_rd:=hG1.rd
    simp[S1_n,S1_md]
    have hdl2:done.length+1≤ws.length:=by
      have:=hLl
      rw[← hL] at this
      simp at this
      omega
    have hN:=hG1.new
    simp at hN
    refine OpT_addZ (e:=29) (by_:=72) (N:=[da,db,dc,dd]) (lo2:=S.nx+17+6) (hi2:=S1.nx) (hi':=S1.nx) hA (rowsZ_len (fun x=>by simp) _) ?_ rfl hN rfl (by kernel_rfl) (by unfold appBound;omega) (by omega) (by omega) (by omega) (by omega) (by omega) (by omega) (fun p hp=>by have:=hN.rng p hp;omega) ?_
    · intro b k1 k2
      have o1:=hG1.old b (by simp;omega) (by omega)
      simpa using o1
    · intro X9 S9 E9 hE9 hA9 hB9 hs9
      rw[hE9]
      have S9_n:=hs9.n
      have S9_gl:=hs9.gl
      have S9_md:=hs9.md
      have S9_nx:=hs9.nx
      have S9_R:=hB9 R (.inl (by omega)) (by omega)
      simp[S1_n,S1_gl,S1_md,S1_rd] at S9_n S9_gl S9_md S9_nx S9_R
      simp[h6,S9_n,S9_R]
      refine⟨⟨f,j,done++[d],r',hpf',by simpa using hL,rfl,X9,?_,?_,?_,by omega,by omega,rfl⟩,rdMu_lt hrd (j:=j) (b':=false) (by simp[S9_R]) (by omega) (by omega)⟩
      · rw[rows_add, ← hD1]
        have h9:=hA9.keep (S':=S9) (lo':=R+1) (hi':=S9.nx) (fun b k1 k2=>rfl) (Nat.le_refl _) (by omega)
        simpa using h9
      · intro y k1
        have a9:=hB9 y (.inl (by omega)) (by omega)
        have a1:=hG1.old y (by simp;omega) (by omega)
        rw[a9,a1]
        exact ho y k1
      · intro y k1
        have a9:=congrFun hs9.T y
        have a1:=hG1.T y (by simp;omega)
        rw[a9,a1]
        exact hT y k1
theorem tle0 {s:ByteArray}{b:Bool} (h:s.size≤1048576):TLe 1048576 (.mk s [] b):=.mk h (by simp) (by simp)
theorem tle1 {s:ByteArray}{b:Bool}{t:Typ} (h:s.size≤1048576) (ht:TLe 1048576 t):TLe 1048576 (.mk s [t] b):=.mk h (by simp) (by simpa using ht)
theorem small0 {k n:Int}{s:ByteArray} (h:s.size≤1048576):Small (.mk k n s [] []):=.mk h (by simp) (by simp) (by simp) (by simp)
theorem bsz (l:Array UInt8):(ByteArray.mk l).size=l.size:=rfl
theorem schema_sm:∀ d∈schemaL,DefSm d:=by
  intro d hd
  simp only[schemaL,List.mem_cons,List.not_mem_nil,or_false] at hd
  rcases hd with rfl | rfl | rfl | rfl | rfl | rfl | rfl
  all_goals
    simp[DefSm,FldSm,ArgSm,bsz]
  all_goals
    repeat' first | exact tle0 (by decide) | exact small0 (by decide) | refine tle1 (by decide) ?_ | refine And.intro ?_ ?_
abbrev kindT:Typ:=.mk ⟨#[75,105,110,100]⟩ [] false
abbrev catV:Val:=.mk 7 0 ⟨#[67,65,84]⟩ [] []
theorem schema_fits (l:List Def) (h:fitsB l kindT catV=true):schemaL.all (defFits l)=true:=by
  simp[schemaL,defFits,fldFits,argFits,h]
theorem schema_ok:checkB schemaL=0:=by
  refine check_zero.2 ⟨by decide,by decide +kernel,by decide +kernel,by decide +kernel,by decide +kernel,by decide +kernel,schema_fits _ ?_,by decide +kernel⟩
  rw[fitsB_eq]
  decide +kernel
set_option maxHeartbeats 4000000 in
theorem l_schema (S0:St):∃ r S',LCall Tryz.prog 66 [] S0 r S'∧∃ x:Ld,r=x.sv∧x.sh=skDefs schemaL∧Got0 S0 S' [x]:=by
  have hg:=fun S=>l_get litL lit_plain (by decide) litW lit_words (by decide) schemaL lit_schema schema_ok schema_sm S
  refine LCall.ex_ (md:=[]) Tryz.func66 rfl (by kernel_rfl) (by kernel_rfl) (n:=8) Tryz.ntmps66 (by simp) (by decide) rfl ?_
  simp
  refine CallT.x (hg _) rfl (fun r1 S1 h1=>?_)
  obtain⟨x,rfl,hx,hG1⟩:=h1
  obtain⟨x1,x2,x3⟩:=z_one hx
  have S1_n:=hG1.n
  have S1_gl:=hG1.gl
  have S1_md:=hG1.md
  have S1_nx:=hG1.nx
  simp at S1_n S1_gl S1_md S1_nx
  simp[S1_n,S1_gl]
  refine⟨x,rfl,hx,rfl,rfl,rfl,by simp;omega,fun y k1=>?_,fun y k1=>?_,?_⟩
  · have a1:=hG1.old y (by simp;omega)
    simpa using a1
  · have a1:=hG1.T y (by simp;omega)
    simpa using a1
  · have hN:=hG1.new
    simp at hN
    exact (hN.keep fun b k1 k2=>by simp).le (by omega) (by simp)
def typV:Typ→List SV
  | .mk s l b=>[.d (dS s), .fl (typsCells l) l.length, .d (dB b)]
def Wrap (names:List ByteArray):Nat→Typ→Prop
  | 0,t=>∃ n b,t=.mk n [] b∧n∈names
  | k+1,t=>∃ t' b,t=.mk ⟨#[]⟩ [t'] b∧Wrap names k t'
theorem Wrap.tle {names:List ByteArray} (hn:∀ s∈names,s.size≤1048576):∀ {k:Nat}{t:Typ},Wrap names k t→TLe 1048576 t
  | 0,t,h=>by
    obtain⟨n,b,rfl,hm⟩:=h
    exact tle0 (hn _ hm)
  | k+1,t,h=>by
    obtain⟨t',b,rfl,h'⟩:=h
    exact tle1 (by decide) (Wrap.tle hn h')
set_option maxHeartbeats 16000000 in
theorem l_type13 (S0:St) (R:Nat) (c:List UInt8) (p:Nat) (X:SV) (l:List ByteArray) (hX:TextRow X l) (hl0:l≠[]) (hll:l.length≤1000000) (hR:R<S0.nx) (h:S0.B R=some (rdP c p)) (hc:c.length≤2000) (hp:p≤900000) :
    ∃ r S',LCall Tryz.prog 74 [.op R 0,X] S0 r S'∧∃ (t:Typ) (k q:Nat),r=.ag (typV t)∧Wrap l k t∧k≤2∧Got S0 S' R (rdP c q) []∧q≤p+5:=by
  have hX1:X.one=true∧X.cells=[X]∧X.cell=true:=by rcases hX with rfl | rfl<;>exact⟨rfl,rfl,rfl⟩
  obtain⟨X1,X2,X3⟩:=hX1
  have ho:=ofK_mem c p hl0
  refine LCall.ex_ (md:=[]) Tryz.func74 rfl (by kernel_rfl) (by kernel_rfl) (n:=28) Tryz.ntmps74 (by simp) (by decide) rfl ?_
  simp
  generalize hu:S0.nx=u at *
  have n1:¬ R=u:=by omega
  have n2:¬ u=R:=by omega
  obtain⟨N,hN⟩:∃ N,u=N:=⟨_,rfl⟩
  obtain⟨Sr,hSr⟩:∃ Sr,S0=Sr:=⟨_,rfl⟩
  have hrO:∀ y,y<N→y≠R→S0.B y=Sr.B y:=fun y _ _=>by rw[hSr]
  have hrT:∀ y,y<N→S0.T y=Sr.T y:=fun y _=>by rw[hSr]
  refine CallT.x (x_of _ R c p X l hX hl0 hll (by simp;omega) (by simp[h,n1]) hc (by omega)) rfl (fun r1 S1 h1=>?_)
  obtain⟨q1,hG1⟩:=h1
  subst q1
  have S1_n:=hG1.n
  try simp at S1_n
  have S1_gl:=hG1.gl
  try simp at S1_gl
  have S1_md:=hG1.md
  try simp at S1_md
  have S1_nx:=hG1.nx
  try simp at S1_nx
  have S1_rd:=hG1.rd
  have u_S1:=hG1.old u (by first | omega | (simp;omega)) (by omega)
  try simp at u_S1
  have S1_o:∀ y,y<N→y≠R→S1.B y=Sr.B y:=fun y k1 k2=>by
    have a1:=hG1.old y (by first | omega | (simp;omega)) k2
    have y1:¬ y=u:=by omega
    try simp[y1] at a1
    exact a1.trans (hrO y k1 k2)
  have S1_t:∀ y,y<N→S1.T y=Sr.T y:=fun y k1=>by
    have a1:=hG1.T y (by first | omega | (simp;omega))
    try simp at a1
    exact a1.trans (hrT y k1)
  simp[S1_n]
  refine CallT.x (x_pick _ R c (p+1) 3 (by first | omega | (simp;omega)) (by simp[S1_rd]) hc (by omega) (by omega) (by omega)) rfl (fun r2 S2 h2=>?_)
  obtain⟨q2,hG2⟩:=h2
  subst q2
  have S2_n:=hG2.n
  try simp[S1_n] at S2_n
  have S2_gl:=hG2.gl
  try simp[S1_gl] at S2_gl
  have S2_md:=hG2.md
  try simp[S1_md] at S2_md
  have S2_nx:=hG2.nx
  try simp[h,X1,X2,X3,n1,n2,S1_n,S1_gl,S1_md,S1_rd,u_S1,S2_n,S2_gl,S2_md] at S2_nx
  have S2_rd:=hG2.rd
  have u_S2:=hG2.old u (by first | omega | (simp;omega)) (by omega)
  try simp[u_S1] at u_S2
  have S2_o:∀ y,y<N→y≠R→S2.B y=Sr.B y:=fun y k1 k2=>by
    have a1:=hG2.old y (by first | omega | (simp;omega)) k2
    have y1:¬ y=u:=by omega
    try simp[y1] at a1
    exact a1.trans (S1_o y k1 k2)
  have S2_t:∀ y,y<N→S2.T y=Sr.T y:=fun y k1=>by
    have a1:=hG2.T y (by first | omega | (simp;omega))
    try simp at a1
    exact a1.trans (S1_t y k1)
  simp[S2_n,S2_md]
  obtain⟨v,hv⟩:∃ v,u+1+7=v:=⟨_,rfl⟩
  rw[hv]
  have n3:¬ R=v:=by omega
  have n4:¬ v=R:=by omega
  have n5:¬ u=v:=by omega
  have n6:¬ v=u:=by omega
  refine CallT.x (x_one _ R c (p+2) _ [0,0,0,1,1,2] (.inl rfl) (by simp) (by simp) (by first | omega | (simp;omega)) (by simp[S2_rd,n3]) hc (by omega)) rfl (fun r3 S3 h3=>?_)
  obtain⟨q3,hG3⟩:=h3
  subst q3
  have S3_n:=hG3.n
  try simp[S2_n] at S3_n
  have S3_gl:=hG3.gl
  try simp[S2_gl] at S3_gl
  have S3_md:=hG3.md
  try simp[S2_md] at S3_md
  have S3_nx:=hG3.nx
  try simp at S3_nx
  have S3_rd:=hG3.rd
  have u_S3:=hG3.old u (by first | omega | (simp;omega)) (by omega)
  try simp[u_S2,n5] at u_S3
  have v_S3:=hG3.old v (by first | omega | (simp;omega)) (by omega)
  try simp at v_S3
  have S3_o:∀ y,y<N→y≠R→S3.B y=Sr.B y:=fun y k1 k2=>by
    have a1:=hG3.old y (by first | omega | (simp;omega)) k2
    have y1:¬ y=u:=by omega
    have y2:¬ y=v:=by omega
    try simp[y2] at a1
    exact a1.trans (S2_o y k1 k2)
  have S3_t:∀ y,y<N→S3.T y=Sr.T y:=fun y k1=>by
    have a1:=hG3.T y (by first | omega | (simp;omega))
    try simp at a1
    exact a1.trans (S2_t y k1)
  have hk:oneK c (p+2) [0,0,0,1,1,2]=0∨oneK c (p+2) [0,0,0,1,1,2]=1∨oneK c (p+2) [0,0,0,1,1,2]=2:=by
    have:=oneK_mem c (p+2) (l:=[0,0,0,1,1,2]) (by simp)
    simpa using this
  obtain⟨k0,hk0,hk2⟩:∃ k0:Nat,oneK c (p+2) [0,0,0,1,1,2]=k0∧k0≤2:=by
    rcases hk with h | h | h
    · exact⟨0,h,by omega⟩
    · exact⟨1,h,by omega⟩
    · exact⟨2,h,by omega⟩
  rw[hk0]
  simp[S3_n]
  refine LoopT.round (fun E S=>∃ (k:Nat) (t:Typ) (j:Nat) (q:Nat),(S.B R=some (rdP c q))∧(S.B u=some [.d (dS ⟨#[]⟩), .fl [] 0, .d (dB false)])∧(S.B v=some (typV t))∧(Wrap l j t)∧(j+k≤2)∧(q+k≤p+5)∧(∀ y,y<N→y≠R→S.B y=Sr.B y)∧(∀ y,y<N→S.T y=Sr.T y)∧(v+1≤S.nx)∧E 6=some (.d (dI k))∧E 0=some (.op R 0)∧E 4=some (.op u 0)∧E 5=some (.op v 0)) (fun E S=>match E 6 with | some (.d (.v (.int _ i)))=>i.toNat | _=>0) ⟨k0, .mk (ofK c p l) [] (decide (pickK c (p+1) 3=0)),0,p+3,by simp[S3_rd,u_S3,v_S3];exact⟨rfl,⟨_,_,rfl,ho⟩,hk2,by omega,S3_o,S3_t,by omega⟩⟩ ?_
  rintro E S hk ⟨k,t,j,q,hrd,hBu,hBv,hW,hjk,hqk,hrO2,hrT2,hnx,h6,h0,h4,h5⟩
  have hn:S.n=28:=by first | (simpa using hk.n)|(have hh:=hk.n;simp[S3_n] at hh;exact hh)
  have hg:S.gl=S0.gl:=by first | (simpa using hk.gl)|(have hh:=hk.gl;simp[S3_gl] at hh;exact hh)
  have hmd:S.md=[]:=by first | (simpa using hk.md)|(have hh:=hk.md;simp[S3_md] at hh;exact hh)
  simp[h6,hn]
  obtain⟨s,lt,b⟩:=t
  simp only[typV] at hBv
  refine BrT.dec (fun c0=>?_) (fun c0=>?_)
  · simp[h0,h5,hn,hmd,hBv,c0]
    refine⟨DrawT.mk (by kernel_rfl),?_⟩
    obtain⟨r5,S5,hL5,q5,hG5⟩:=x_pick ((S.adv 2).adv 7) R c q 4 (by first | omega | (simp;omega)) (by simp[hrd]) hc (by omega) (by omega) (by omega)
    subst q5
    have S5_n:=hG5.n
    try simp[hn] at S5_n
    have S5_gl:=hG5.gl
    try simp[hg] at S5_gl
    have S5_md:=hG5.md
    try simp[hmd] at S5_md
    have S5_nx:=hG5.nx
    try simp at S5_nx
    have S5_rd:=hG5.rd
    have u_S5:=hG5.old u (by first | omega | (simp;omega)) (by omega)
    try simp[hBu] at u_S5
    have v_S5:=hG5.old v (by first | omega | (simp;omega)) (by omega)
    try simp[hBv] at v_S5
    have S5_o:∀ y,y<N→y≠R→S5.B y=Sr.B y:=fun y k1 k2=>by
      have a1:=hG5.old y (by first | omega | (simp;omega)) k2
      have y1:¬ y=u:=by omega
      have y2:¬ y=v:=by omega
      try simp at a1
      exact a1.trans (hrO2 y k1 k2)
    have S5_t:∀ y,y<N→S5.T y=Sr.T y:=fun y k1=>by
      have a1:=hG5.T y (by first | omega | (simp;omega))
      try simp at a1
      exact a1.trans (hrT2 y k1)
    refine CallT.calm [((0,5),3)] (by kernel_rfl) (by kernel_rfl) hL5 ?_ ?_
    · simp[h5,hBv,v_S5,Eh.e,refOf]
    simp[n3,n5,h6,h0,h4,h5,c0,S5_n,S5_rd,u_S5,v_S5]
    obtain⟨k',rfl⟩:∃ k',k=k'+1:=⟨k - 1,by omega⟩
    have w1:=wrap64 (n:=(k':Int)) (by omega) (by omega)
    have w2:((k'+1:Nat):Int) - 1=(k':Int):=by omega
    simp[w1]
    refine⟨⟨k', .mk ⟨#[]⟩ [.mk s lt b] (decide (pickK c q 4=0)),j+1,q+1,by omega,by simp[typV,typsCells,Typ.cells],⟨_,_,rfl,hW⟩,by omega,by omega,fun y k1 k2=>?_,S5_t,by omega,rfl⟩,by omega⟩
    rw[if_neg (by omega)]
    exact S5_o y k1 k2
  · simp[h4,h5,hn,hg,hBu,hBv,c0]
    have hk0:k=0:=by omega
    subst hk0
    refine⟨.mk s lt b,rfl,j,hW,by omega,q,⟨rfl,rfl,rfl,by simp;omega,by simp[n1,hrd],?_,?_, .nil⟩,by omega⟩
    · intro y k1 k2
      have z1:¬ y=u:=by omega
      simp[z1]
      exact (hrO2 y (by omega) k2).trans (by rw[hSr])
    · intro y k1
      exact (hrT2 y (by omega)).trans (by rw[hSr])
set_option maxHeartbeats 8000000 in
theorem l_text13 (S0:St) (R:Nat) (c:List UInt8) (p:Nat) (hR:R<S0.nx) (h:S0.B R=some (rdP c p)) (hc:c.length≤2000) (hp:p≤900000) :
    ∃ r S',LCall Tryz.prog 153 [.op R 0] S0 r S'∧∃ s:ByteArray,r=.d (dS s)∧s.size≤40∧Got S0 S' R (rdP c (p+1)) []:=by
  have hm:=p_many (gl:=S0.gl) ⟨#[120]⟩ 40 (by decide) (by decide) (by decide)
  have hms:(manyS ⟨#[120]⟩ 40).size=40:=by rw[manyS_size];rfl
  generalize manyS ⟨#[120]⟩ 40=m at hm hms
  refine LCall.ex_ (md:=[]) Tryz.func153 rfl (by kernel_rfl) (by kernel_rfl) (n:=7) Tryz.ntmps153 (by simp) (by decide) rfl ?_
  simp
  repeat refine⟨DrawT.mk (by kernel_rfl),?_⟩
  refine CallT.p0 (hm) (by first | rfl | (simp;done)|(simp[h];done)) (by first | rfl | (simp;done)|(simp;rfl)|(simp[h];done)) ?_
  simp
  refine CallT.x (x_of _ R c p _ [⟨#[]⟩,⟨#[97]⟩,⟨#[104,101,108,108,111]⟩,⟨#[34,113,34]⟩,⟨#[108,105,110,101,10]⟩,⟨#[0,255]⟩,⟨#[92]⟩,m,⟨#[67,65,84]⟩] (.inl rfl) (by simp) (by simp) (by first | omega | (simp;omega)) (by simp[h]) hc (by omega)) rfl (fun r1 S1 h1=>?_)
  obtain⟨q1,hG1⟩:=h1
  subst q1
  have S1_n:=hG1.n
  try simp at S1_n
  have S1_gl:=hG1.gl
  try simp at S1_gl
  have S1_md:=hG1.md
  try simp at S1_md
  have S1_nx:=hG1.nx
  try simp at S1_nx
  have S1_rd:=hG1.rd
  have ho:=ofK_mem c p (l:=[⟨#[]⟩,⟨#[97]⟩,⟨#[104,101,108,108,111]⟩,⟨#[34,113,34]⟩,⟨#[108,105,110,101,10]⟩,⟨#[0,255]⟩,⟨#[92]⟩,m,⟨#[67,65,84]⟩]) (by simp)
  generalize ofK c p _=s at ho
  have hs:s.size≤40:=by
    simp only[List.mem_cons,List.not_mem_nil,or_false] at ho
    rcases ho with rfl | rfl | rfl | rfl | rfl | rfl | rfl | rfl | rfl<;>first | decide | omega
  simp[S1_n,S1_gl]
  refine⟨hs,rfl,rfl,rfl,by simp;omega,by simp[S1_rd],?_,?_, .nil⟩
  · intro y k1 k2
    have a1:=hG1.old y (by simp;omega) k2
    simpa using a1
  · intro y k1
    have a1:=hG1.T y (by simp;omega)
    simpa using a1
def pB:Nat→Nat
  | 0=>4
  | d+1=>8+3*(1+pB d)
theorem AccD.toD {sz:Nat}{S:St}{X:SV}{cs:List D}{n:Nat} (h:AccD sz S X cs n):X.toD=some (.ps cs n):=by
  rcases h with ⟨rfl,rfl,rfl⟩ | ⟨_,i,_,rfl,_⟩<;>rfl
theorem AccD.move {sz sz':Nat}{S S':St}{X Y:SV}{cs cs':List D}{n n':Nat} (h:AccD sz S X cs n) (h':AccD sz' S Y cs' n') (hne:sz≠sz') (hnx:S.nx≤S'.nx) (hT:∀ y,y<S.nx→(∀ o c m,Y≠.tp y o c m)→S'.T y=S.T y):AccD sz S' X cs n:=by
  rcases h with ⟨rfl,rfl,rfl⟩ | ⟨h0,i,hi,rfl,hTi⟩
  · exact AccD.nil
  · refine .inr ⟨h0,i,by omega,rfl,(hT i hi (fun o c m e=>?_)).trans hTi⟩
    subst e
    rcases h' with ⟨_,_,h2⟩ | ⟨_,j,_,h2,h3⟩
    · cases h2
    · cases h2
      rw[hTi] at h3
      simp at h3
      exact hne h3.2
theorem OpT_addD {P:Program}{S1 S:St}{sz n id:Nat}{X:SV}{cs ds:List D}{dst:Option Nat}{T e by_:Nat}{K:Bool→SV→Eff→Prop} (hT:appOf P T=some (e,sz,by_)) (h:AccD sz S1 X cs n) (hl:cs.length=n*sz) (hds:ds.length=sz) (hb:appBound n 1 by_)
    (hS:∀ i,i<S1.nx→S.T i=S1.T i) (hnx:S1.nx≤S.nx) (hid:id<S.nx) (hmd:S.md=[])
    (hK:∀ X' S' E',S.app id E'=S'→AccD sz S' X' (cs++ds) (n+1)→S'.B=S.B→(∀ y,y≠id→(∀ o cs m,X≠.tp y o cs m)→S'.T y=S.T y)→(∀ i o cs m,X'=.tp i o cs m→i=id∨∃ o cs m,X=.tp i o cs m)→S'.nx=S.nx→S'.n=S.n→S'.gl=S.gl→S'.md=S.md→K true X' E'):OpT (evalAppend P S id dst T X (.fl ds 1)) K:=by
  rcases h with ⟨rfl,rfl,rfl⟩ | ⟨h0,i,hi,rfl,hTi⟩
  · have he:evalAppend P S id dst T (.fl [] 0) (.fl ds 1)=some (.tp id 0 ([]++ds) (0+1), .tip id (0+1) sz):=by
      rw[evalAppend_fl]
      simp[rowS,hT,hmd,hds,onlyIf,hb]
    rw[he]
    refine hK _ _ _ rfl (.inr ⟨by omega,id,hid,rfl,upd_same _ _ _⟩) rfl (fun y hy _=>upd_ne _ _ hy) (fun i o cs m e=>?_) rfl rfl rfl rfl
    cases e;exact .inl rfl
  · have hTS:S.T i=some (n,sz):=(hS i hi).trans hTi
    have he:evalAppend P S id dst T (.tp i 0 cs n) (.fl ds 1)=some (.tp i 0 (cs++ds) (n+1), .tip i (0+(n+1)) sz):=by
      simp[evalAppend,rowS,hT,hds,onlyIf,hb,hTS,hl]
    rw[he]
    refine hK _ _ _ rfl (.inr ⟨by omega,i,by show i<S.nx;omega,rfl,?_⟩) rfl (fun y hy hx=>upd_ne _ _ (fun e=>hx 0 cs n (by rw[e]))) (fun j o cs' m e=>?_) rfl rfl rfl rfl
    · rw[Nat.zero_add];exact upd_same _ _ _
    · cases e;exact .inr ⟨_,_,_,rfl⟩
inductive ValR (S:St):SV→Val→Prop
  | mk {k m:Int} {s:ByteArray} {l:List Val} {ns:List ByteArray} {X Y:SV} (hX:AccD 5 S X (valsCells l) l.length) (hY:AccD 1 S Y (ns.map dS) ns.length):ValR S (.ag [.d (dI k), .d (dI m), .d (dS s),X,Y]) (.mk k m s l ns)
structure ValI (S0 S:St) (R u w:Nat) (c:List UInt8) (q:Nat) (k m:Int) (s:ByteArray) (X Y:SV) (l:List Val) (ns:List ByteArray):Prop where
  n:S.n=89
  gl:S.gl=S0.gl
  md:S.md=[]
  nx:w+1≤S.nx
  rd:S.B R=some (rdP c q)
  res:S.B u=some [.d (dI 0), .d (dI 0), .d (dS ⟨#[]⟩),SV.fl [] 0, .fl [] 0]
  cell:S.B w=some [SV.d (dI k), .d (dI m), .d (dS s),X,Y]
  lst:AccD 5 S X (valsCells l) l.length
  nam:AccD 1 S Y (ns.map dS) ns.length
  old:∀ y,y<u→y≠R→S.B y=S0.B y
  T:∀ y,y<u→S.T y=S0.T y
set_option maxHeartbeats 32000000 in
theorem l_value13 (c:List UInt8) (hc:c.length≤2000):∀ (d:Nat) (S0:St) (R p:Nat),R<S0.nx→S0.B R=some (rdP c p)→p+pB d≤900000→d≤100 →
    ∃ r S',LCall Tryz.prog 99 [.op R 0, .d (dI d)] S0 r S'∧∃ v:Val,ValR S' r v∧Small v∧∃ q,Got S0 S' R (rdP c q) []∧q≤p+pB d:=by
  intro d
  induction d using Nat.strongRecOn with
  | _ d ih =>
  intro S0 R p hR h hp hd
  refine LCall.ex_ (md:=[]) Tryz.func99 rfl (by kernel_rfl) (by kernel_rfl) (n:=89) Tryz.ntmps99 (by simp) (by decide) rfl ?_
  simp
  generalize hu:S0.nx=u at *
  have n1:¬ R=u:=by omega
  have n2:¬ u=R:=by omega
  obtain⟨N,hN⟩:∃ N,u=N:=⟨_,rfl⟩
  obtain⟨Sr,hSr⟩:∃ Sr,S0=Sr:=⟨_,rfl⟩
  have hrO:∀ y,y<N→y≠R→S0.B y=Sr.B y:=fun y _ _=>by rw[hSr]
  have hrT:∀ y,y<N→S0.T y=Sr.T y:=fun y _=>by rw[hSr]
  have hpB:4≤pB d:=by cases d<;>simp[pB];omega
  refine CallT.x (x_one _ R c p _ [0,1,2,2,3,3,4,5] (.inl rfl) (by simp) (by simp) (by first | omega | (simp;omega)) (by simp[h,n1]) hc (by omega)) rfl (fun r1 S1 h1=>?_)
  obtain⟨q1,hG1⟩:=h1
  subst q1
  have S1_n:=hG1.n
  try simp at S1_n
  have S1_gl:=hG1.gl
  try simp at S1_gl
  have S1_md:=hG1.md
  try simp at S1_md
  have S1_nx:=hG1.nx
  try simp at S1_nx
  have S1_rd:=hG1.rd
  have u_S1:=hG1.old u (by first | omega | (simp;omega)) (by omega)
  try simp at u_S1
  have S1_o:∀ y,y<N→y≠R→S1.B y=Sr.B y:=fun y k1 k2=>by
    have a1:=hG1.old y (by first | omega | (simp;omega)) k2
    have y1:¬ y=u:=by omega
    try simp[y1] at a1
    exact a1.trans (hrO y k1 k2)
  have S1_t:∀ y,y<N→S1.T y=Sr.T y:=fun y k1=>by
    have a1:=hG1.T y (by first | omega | (simp;omega))
    try simp at a1
    exact a1.trans (hrT y k1)
  have hk:=oneK_mem c p (l:=[0,1,2,2,3,3,4,5]) (by simp)
  generalize oneK c p [0,1,2,2,3,3,4,5]=k0 at hk
  simp[S1_n]
  -- what is drawn once more where it is too deep
  refine BrT.dec (fun c0=>?_) (fun c0=>?_)
  case' refine_2 =>
    simp[S1_n,c0]
    obtain⟨w,hw,hwn⟩:∃ w,S1.nx+6+2=w∧w<S1.nx+10:=⟨_,rfl,by omega⟩
    rw[hw]
    obtain⟨S2,hS2⟩:∃ S2,S2=S1:=⟨_,rfl⟩
    obtain⟨k,hk3⟩:∃ k,k=k0:=⟨_,rfl⟩
    rw[← hk3] at hk ⊢
    subst hS2
    have S2_n:=S1_n
    have S2_gl:=S1_gl
    have S2_md:=S1_md
    have S2_nx:=S1_nx
    have S2_o:=S1_o
    have S2_t:=S1_t
    have u_S2:=u_S1
    obtain⟨q,hqe⟩:∃ q,q=p+1:=⟨_,rfl⟩
    rw[← hqe] at S1_rd
    have hq:q≤p+2:=by omega
    have S2_rd:=S1_rd
    have hk5:k=0∨k=1∨k=2∨k=3∨∃ e,d=e+1∧1≤e∧(k=4∨k=5):=by
      simp at hk
      have h5:k=0∨k=1∨k=2∨k=3∨(k=4∨k=5):=by omega
      rcases h5 with h | h | h | h | h
      · exact .inl h
      · exact .inr (.inl h)
      · exact .inr (.inr (.inl h))
      · exact .inr (.inr (.inr (.inl h)))
      · exact .inr (.inr (.inr (.inr ⟨d - 1,by omega,by omega,h⟩)))
  case' refine_1 =>
    simp[S1_n,c0]
    refine BrT.dec (fun c1=>?_) (fun c1=>?_)
    case' refine_2 =>
      simp[S1_n,c1]
      obtain⟨w,hw,hwn⟩:∃ w,S1.nx+6+2=w∧w<S1.nx+10:=⟨_,rfl,by omega⟩
      rw[hw]
      obtain⟨S2,hS2⟩:∃ S2,S2=S1:=⟨_,rfl⟩
      obtain⟨k,hk3⟩:∃ k,k=k0:=⟨_,rfl⟩
      rw[← hk3] at hk c1 ⊢
      subst hS2
      have S2_n:=S1_n
      have S2_gl:=S1_gl
      have S2_md:=S1_md
      have S2_nx:=S1_nx
      have S2_o:=S1_o
      have S2_t:=S1_t
      have u_S2:=u_S1
      obtain⟨q,hqe⟩:∃ q,q=p+1:=⟨_,rfl⟩
      rw[← hqe] at S1_rd
      have hq:q≤p+2:=by omega
      have S2_rd:=S1_rd
      have hk5:k=0∨k=1∨k=2∨k=3∨∃ e,d=e+1∧1≤e∧(k=4∨k=5):=by
        simp at hk
        omega
    case' refine_1 =>
      simp[S1_n,c1]
      refine CallT.x (x_pick _ R c (p+1) 4 (by first | omega | (simp;omega)) (by simp[S1_rd]) hc (by omega) (by omega) (by omega)) rfl (fun r2 S2 h2=>?_)
      obtain⟨q2,hG2⟩:=h2
      subst q2
      have S2_n:=hG2.n
      try simp[S1_n] at S2_n
      have S2_gl:=hG2.gl
      try simp[S1_gl] at S2_gl
      have S2_md:=hG2.md
      try simp[S1_md] at S2_md
      have S2_nx:=hG2.nx
      try simp at S2_nx
      have S2_rd:=hG2.rd
      have u_S2:=hG2.old u (by first | omega | (simp;omega)) (by omega)
      try simp[u_S1] at u_S2
      have S2_o:∀ y,y<N→y≠R→S2.B y=Sr.B y:=fun y k1 k2=>by
        have a1:=hG2.old y (by first | omega | (simp;omega)) k2
        have y1:¬ y=u:=by omega
        try simp at a1
        exact a1.trans (S1_o y k1 k2)
      have S2_t:∀ y,y<N→S2.T y=Sr.T y:=fun y k1=>by
        have a1:=hG2.T y (by first | omega | (simp;omega))
        try simp at a1
        exact a1.trans (S1_t y k1)
      have hk2:=pickK_lt c (p+1) 4 (by omega)
      obtain⟨k,hk3,hk4⟩:∃ k:Int,(pickK c (p+1) 4:Int)=k∧(k=0∨k=1∨k=2∨k=3):=⟨_,rfl,by omega⟩
      rw[hk3]
      simp[S2_n]
      obtain⟨q,hqe⟩:∃ q,q=p+1+1:=⟨_,rfl⟩
      rw[← hqe] at S2_rd
      have hq:q≤p+2:=by omega
      obtain⟨w,hw,hwn⟩:∃ w,S2.nx+2=w∧w<S2.nx+4:=⟨_,rfl,by omega⟩
      rw[hw]
      have hk5:k=0∨k=1∨k=2∨k=3∨∃ e,d=e+1∧1≤e∧(k=4∨k=5):=by rcases hk4 with h | h | h | h<;>simp[h]
  all_goals
    have m1:¬ R=w:=by omega
    have m2:¬ w=R:=by omega
    have m3:¬ u=w:=by omega
    have m4:¬ w=u:=by omega
    have huw:u<w:=by omega
    rcases hk5 with rfl | rfl | rfl | rfl | ⟨e,rfl,he,rfl | rfl⟩
    · simp[S1_n,S1_gl,u_S1,S2_n,S2_gl,u_S2,m3]
      refine⟨.mk 0 0 ⟨#[]⟩ [] [], .mk AccD.nil AccD.nil,small0 (by decide),q,⟨rfl,rfl,rfl,by simp;omega,by simp[n1,S1_rd,S2_rd,m1],?_,?_, .nil⟩,by omega⟩
      · intro y k1 k2
        have z1:¬ y=u:=by omega
        have z2:¬ y=w:=by omega
        simp[z1,z2]
        exact (S2_o y (by omega) k2).trans (by rw[hSr])
      · intro y k1
        exact (S2_t y (by omega)).trans (by rw[hSr])
    · simp[S1_n,S2_n]
      refine CallT.x (x_pick _ R c q 2 (by first | omega | (simp;omega)) (by simp[S1_rd,S2_rd,m1]) hc (by omega) (by omega) (by omega)) rfl (fun r3 S3 h3=>?_)
      obtain⟨q3,hG3⟩:=h3
      subst q3
      have S3_n:=hG3.n
      try simp[S1_n,S2_n] at S3_n
      have S3_gl:=hG3.gl
      try simp[S1_gl,S2_gl] at S3_gl
      have S3_md:=hG3.md
      try simp[S1_md,S2_md] at S3_md
      have S3_nx:=hG3.nx
      try simp at S3_nx
      have S3_rd:=hG3.rd
      have u_S3:=hG3.old u (by first | omega | (simp;omega)) (by omega)
      try simp[u_S1,u_S2,m3] at u_S3
      have w_S3:=hG3.old w (by first | omega | (simp;omega)) (by omega)
      try simp at w_S3
      have S3_o:∀ y,y<N→y≠R→S3.B y=Sr.B y:=fun y k1 k2=>by
        have a1:=hG3.old y (by first | omega | (simp;omega)) k2
        have y1:¬ y=u:=by omega
        have y2:¬ y=w:=by omega
        try simp[y2] at a1
        exact a1.trans (S2_o y k1 k2)
      have S3_t:∀ y,y<N→S3.T y=Sr.T y:=fun y k1=>by
        have a1:=hG3.T y (by first | omega | (simp;omega))
        try simp at a1
        exact a1.trans (S2_t y k1)
      simp[m3,S3_n,S3_gl,u_S3,w_S3]
      refine⟨.mk 1 (pickK c q 2) ⟨#[]⟩ [] [], .mk AccD.nil AccD.nil,small0 (by decide),q+1,⟨rfl,rfl,rfl,by simp;omega,by simp[n1,m1,S3_rd],?_,?_, .nil⟩,by omega⟩
      · intro y k1 k2
        have z1:¬ y=u:=by omega
        have z2:¬ y=w:=by omega
        simp[z1,z2]
        exact (S3_o y (by omega) k2).trans (by rw[hSr])
      · intro y k1
        exact (S3_t y (by omega)).trans (by rw[hSr])
    · simp[S1_n,S1_md,S2_n,S2_md]
      refine CallT.x (x_one _ R c q _ [0,1, -1,7,42,2147483647, -2147483647] (.inl rfl) (by simp) (by simp) (by first | omega | (simp;omega)) (by simp[S1_rd,S2_rd,m1]) hc (by omega)) rfl (fun r3 S3 h3=>?_)
      obtain⟨q3,hG3⟩:=h3
      subst q3
      have S3_n:=hG3.n
      try simp[S1_n,S2_n] at S3_n
      have S3_gl:=hG3.gl
      try simp[S1_gl,S2_gl] at S3_gl
      have S3_md:=hG3.md
      try simp[S1_md,S2_md] at S3_md
      have S3_nx:=hG3.nx
      try simp at S3_nx
      have S3_rd:=hG3.rd
      have u_S3:=hG3.old u (by first | omega | (simp;omega)) (by omega)
      try simp[u_S1,u_S2,m3] at u_S3
      have w_S3:=hG3.old w (by first | omega | (simp;omega)) (by omega)
      try simp at w_S3
      have S3_o:∀ y,y<N→y≠R→S3.B y=Sr.B y:=fun y k1 k2=>by
        have a1:=hG3.old y (by first | omega | (simp;omega)) k2
        have y1:¬ y=u:=by omega
        have y2:¬ y=w:=by omega
        try simp[y2] at a1
        exact a1.trans (S2_o y k1 k2)
      have S3_t:∀ y,y<N→S3.T y=Sr.T y:=fun y k1=>by
        have a1:=hG3.T y (by first | omega | (simp;omega))
        try simp at a1
        exact a1.trans (S2_t y k1)
      simp[m3,S3_n,S3_gl,u_S3,w_S3]
      refine⟨.mk 2 (oneK c q [0,1, -1,7,42,2147483647, -2147483647]) ⟨#[]⟩ [] [], .mk AccD.nil AccD.nil,small0 (by decide),q+1,⟨rfl,rfl,rfl,by simp;omega,by simp[n1,m1,S3_rd],?_,?_, .nil⟩,by omega⟩
      · intro y k1 k2
        have z1:¬ y=u:=by omega
        have z2:¬ y=w:=by omega
        simp[z1,z2]
        exact (S3_o y (by omega) k2).trans (by rw[hSr])
      · intro y k1
        exact (S3_t y (by omega)).trans (by rw[hSr])
    · simp[S1_n,S2_n]
      refine CallT.x (l_text13 _ R c q (by first | omega | (simp;omega)) (by simp[S1_rd,S2_rd,m1]) hc (by omega)) rfl (fun r3 S3 h3=>?_)
      obtain⟨s,q3,hs,hG3⟩:=h3
      subst q3
      have S3_n:=hG3.n
      try simp[S1_n,S2_n] at S3_n
      have S3_gl:=hG3.gl
      try simp[S1_gl,S2_gl] at S3_gl
      have S3_md:=hG3.md
      try simp[S1_md,S2_md] at S3_md
      have S3_nx:=hG3.nx
      try simp at S3_nx
      have S3_rd:=hG3.rd
      have u_S3:=hG3.old u (by first | omega | (simp;omega)) (by omega)
      try simp[u_S1,u_S2,m3] at u_S3
      have w_S3:=hG3.old w (by first | omega | (simp;omega)) (by omega)
      try simp at w_S3
      have S3_o:∀ y,y<N→y≠R→S3.B y=Sr.B y:=fun y k1 k2=>by
        have a1:=hG3.old y (by first | omega | (simp;omega)) k2
        have y1:¬ y=u:=by omega
        have y2:¬ y=w:=by omega
        try simp[y2] at a1
        exact a1.trans (S2_o y k1 k2)
      have S3_t:∀ y,y<N→S3.T y=Sr.T y:=fun y k1=>by
        have a1:=hG3.T y (by first | omega | (simp;omega))
        try simp at a1
        exact a1.trans (S2_t y k1)
      simp[m3,S3_n,S3_gl,u_S3,w_S3]
      refine⟨.mk 3 0 s [] [], .mk AccD.nil AccD.nil,small0 (by omega),q+1,⟨rfl,rfl,rfl,by simp;omega,by simp[n1,m1,S3_rd],?_,?_, .nil⟩,by omega⟩
      · intro y k1 k2
        have z1:¬ y=u:=by omega
        have z2:¬ y=w:=by omega
        simp[z1,z2]
        exact (S3_o y (by omega) k2).trans (by rw[hSr])
      · intro y k1
        exact (S3_t y (by omega)).trans (by rw[hSr])
    · try (exfalso;omega)
      all_goals
        have he1:pB (e+1)=8+3*(1+pB e):=rfl
        have w1:((e+1:Nat):Int) - 1=(e:Int):=by omega
        have w2:=wrap64 (n:=(e:Int)) (by omega) (by omega)
        simp[S1_n]
        refine CallT.x (x_pick _ R c q 4 (by first | omega | (simp;omega)) (by simp[S1_rd,m1]) hc (by omega) (by omega) (by omega)) rfl (fun r3 S3 h3=>?_)
        obtain⟨q3,hG3⟩:=h3
        subst q3
        have S3_n:=hG3.n
        try simp[S1_n] at S3_n
        have S3_gl:=hG3.gl
        try simp[S1_gl] at S3_gl
        have S3_md:=hG3.md
        try simp[S1_md] at S3_md
        have S3_nx:=hG3.nx
        try simp at S3_nx
        have S3_rd:=hG3.rd
        have u_S3:=hG3.old u (by first | omega | (simp;omega)) (by omega)
        try simp[u_S1,m3] at u_S3
        have w_S3:=hG3.old w (by first | omega | (simp;omega)) (by omega)
        try simp at w_S3
        have S3_o:∀ y,y<N→y≠R→S3.B y=Sr.B y:=fun y k1 k2=>by
          have a1:=hG3.old y (by first | omega | (simp;omega)) k2
          have y1:¬ y=u:=by omega
          have y2:¬ y=w:=by omega
          try simp[y2] at a1
          exact a1.trans (S2_o y k1 k2)
        have S3_t:∀ y,y<N→S3.T y=Sr.T y:=fun y k1=>by
          have a1:=hG3.T y (by first | omega | (simp;omega))
          try simp at a1
          exact a1.trans (S2_t y k1)
        have hn3:=pickK_lt c q 4 (by omega)
        generalize pickK c q 4=n3 at hn3
        simp[S3_n]
        refine LoopT.round (fun E S=>∃ (n:Nat) (qq:Nat) (X:SV) (vl:List Val),(S.B R=some (rdP c qq))∧(S.B u=some [.d (dI 0), .d (dI 0), .d (dS ⟨#[]⟩), .fl [] 0, .fl [] 0])∧(S.B w=some [.d (dI 4), .d (dI 0), .d (dS ⟨#[]⟩),X, .fl [] 0])∧(AccD 5 S X (valsCells vl) vl.length)∧(∀ v∈vl,Small v)∧(vl.length+n≤3)∧(qq+n*(1+pB e)≤q+1+3*(1+pB e))∧(∀ y,y<N→y≠R→S.B y=Sr.B y)∧(∀ y,y<N→S.T y=Sr.T y)∧(∀ i o cs m,X=.tp i o cs m→N≤i)∧(w+1≤S.nx)∧E 7=some (.d (dI n))∧E 0=some (.op R 0)∧E 1=some (.d (dI (e+1:Nat)))∧E 4=some (.op u 0)∧E 6=some (.op w 0)) (fun E S=>match E 7 with | some (.d (.v (.int _ i)))=>i.toNat | _=>0) ⟨n3,q+1, .fl [] 0,[],by simp[S3_rd,u_S3,w_S3];exact⟨AccD.nil,by omega,Nat.mul_le_mul_right _ (by omega),S3_o,S3_t,by omega⟩⟩ ?_
        rintro E S hk ⟨n,qq,X,vl,hrd,hBu,hBw,hA,hSm,hvl,hqq,hrO2,hrT2,hXN,hnx,h7,h0,h1,h4,h6⟩
        have hn:S.n=89:=by first | (simpa using hk.n)|(have hh:=hk.n;simp[S3_n] at hh;exact hh)
        have hg:S.gl=S0.gl:=by first | (simpa using hk.gl)|(have hh:=hk.gl;simp[S3_gl] at hh;exact hh)
        have hmd:S.md=[]:=by first | (simpa using hk.md)|(have hh:=hk.md;simp[S3_md] at hh;exact hh)
        simp[h7,hn]
        refine BrT.dec (fun c2=>?_) (fun c2=>?_)
        · obtain⟨n',rfl⟩:∃ n',n=n'+1:=⟨n - 1,by omega⟩
          rw[Nat.succ_mul] at hqq
          have w3:((n'+1:Nat):Int) - 1=(n':Int):=by omega
          have w4:=wrap64 (n:=(n':Int)) (by omega) (by omega)
          simp[w2,h0,h1,h6,hn,c2,hBw]
          refine⟨DrawT.mk (by kernel_rfl),?_⟩
          obtain⟨r5,S5,hL5,v,hv,hvs,q5,hG5,hq5⟩:=ih e (by omega) ((S.adv 2).adv 10) R qq (by first | omega | (simp;omega)) (by simp[hrd]) (by omega) (by omega)
          have S5_n:=hG5.n
          try simp[hn] at S5_n
          have S5_gl:=hG5.gl
          try simp[hg] at S5_gl
          have S5_md:=hG5.md
          try simp[hmd] at S5_md
          have S5_nx:=hG5.nx
          try simp at S5_nx
          have S5_rd:=hG5.rd
          have u_S5:=hG5.old u (by first | omega | (simp;omega)) (by omega)
          try simp[hBu] at u_S5
          have w_S5:=hG5.old w (by first | omega | (simp;omega)) (by omega)
          try simp[hBw] at w_S5
          have S5_o:∀ y,y<N→y≠R→S5.B y=Sr.B y:=fun y k1 k2=>by
            have a1:=hG5.old y (by first | omega | (simp;omega)) k2
            have y1:¬ y=u:=by omega
            have y2:¬ y=w:=by omega
            try simp at a1
            exact a1.trans (hrO2 y k1 k2)
          have S5_t:∀ y,y<N→S5.T y=Sr.T y:=fun y k1=>by
            have a1:=hG5.T y (by first | omega | (simp;omega))
            try simp at a1
            exact a1.trans (hrT2 y k1)
          refine CallT.calm [((1,6),5)] (by kernel_rfl) (by kernel_rfl) hL5 ?_ ?_
          · simp[h6,hBw,w_S5,Eh.e,refOf]
          obtain⟨hX5,hY5⟩:=hv
          obtain⟨x1,x2,x3⟩:=hX5.one
          obtain⟨y1,y2,y3⟩:=hY5.one
          obtain⟨z1,z2,z3⟩:=hA.one
          have hxD:=hX5.toD
          have hyD:=hY5.toD
          simp[S5_n,S5_md,hxD,hyD]
          rename_i k5 m5 s5 l5 ns5 X5 Y5
          refine OpT_addD (e:=36) (by_:=80) (by kernel_rfl) hA (valsCells_len _) rfl (by unfold appBound;omega) (fun i hi=>hG5.T i (by simp;omega)) (by omega) (by omega) S5_md (fun X9 S9 E9 hE9 hA9 hB9 hT9 hX9 hnx9 hn9 hg9 hm9=>?_)
          rw[hE9]
          have S9_B:∀ y,S9.B y=S5.B y:=fun y=>congrFun hB9 y
          obtain⟨v1,v2,v3⟩:=hA9.one
          rw[S5_n] at hn9
          rw[S5_gl] at hg9
          rw[S5_md] at hm9
          simp[m1,m3,h7,h0,h1,h4,h6,w4,S5_rd,u_S5,w_S5,S9_B,v1,v2,hn9]
          have e9:valsCells (vl++[Val.mk k5 m5 s5 l5 ns5])=valsCells vl++[dI k5,dI m5,dS s5, .ps (valsCells l5) l5.length, .ps (ns5.map dS) ns5.length]:=by
            rw[valsCells_row,valsCells_row];simp[Val.cells]
          refine⟨n',q5,rfl,vl++[.mk k5 m5 s5 l5 ns5],?_,?_,by simp;omega,by omega,?_,?_,?_,by omega,rfl⟩
          · rw[e9,List.length_append]
            exact hA9.mono (by simp) (fun _ _=>rfl)
          · intro v hv
            rcases List.mem_append.1 hv with h | h
            · exact hSm v h
            · rw[List.mem_singleton] at h;rw[h];exact hvs
          · intro y k1 k2
            rw[if_neg (by omega)]
            exact S5_o y k1 k2
          · intro y k1
            rw[hT9 y (by omega) (fun o cs m e=>by have:=hXN _ _ _ _ e;omega)]
            exact S5_t y k1
          · intro i o cs m e
            rcases hX9 i o cs m e with h | ⟨o',cs',m',h⟩
            · omega
            · exact hXN _ _ _ _ h
        · have hn0:n=0:=by omega
          subst hn0
          obtain⟨z1,z2,z3⟩:=hA.one
          simp[h4,h6,hn,hg,c2,hBu,hBw]
          refine⟨.mk 4 0 ⟨#[]⟩ vl [], .mk (hA.mono (by simp) (fun _ _=>rfl)) AccD.nil, .mk (by decide) (by simp) (by simp) (by omega) hSm,qq,⟨rfl,rfl,rfl,by simp;omega,by simp[n1,hrd],?_,?_, .nil⟩,by omega⟩
          · intro y k1 k2
            have z1:¬ y=u:=by omega
            simp[z1]
            exact (hrO2 y (by omega) k2).trans (by rw[hSr])
          · intro y k1
            exact (hrT2 y (by omega)).trans (by rw[hSr])
    · try (exfalso;omega)
      all_goals
        have he1:pB (e+1)=8+3*(1+pB e):=rfl
        have w1:((e+1:Nat):Int) - 1=(e:Int):=by omega
        have w2:=wrap64 (n:=(e:Int)) (by omega) (by omega)
        simp[S1_n]
        refine CallT.x (x_pick _ R c q 4 (by first | omega | (simp;omega)) (by simp[S1_rd,m1]) hc (by omega) (by omega) (by omega)) rfl (fun r3 S3 h3=>?_)
        obtain⟨q3,hG3⟩:=h3
        subst q3
        have S3_n:=hG3.n
        try simp[S1_n] at S3_n
        have S3_gl:=hG3.gl
        try simp[S1_gl] at S3_gl
        have S3_md:=hG3.md
        try simp[S1_md] at S3_md
        have S3_nx:=hG3.nx
        try simp at S3_nx
        have S3_rd:=hG3.rd
        have u_S3:=hG3.old u (by first | omega | (simp;omega)) (by omega)
        try simp[u_S1,m3] at u_S3
        have w_S3:=hG3.old w (by first | omega | (simp;omega)) (by omega)
        try simp at w_S3
        have S3_o:∀ y,y<N→y≠R→S3.B y=Sr.B y:=fun y k1 k2=>by
          have a1:=hG3.old y (by first | omega | (simp;omega)) k2
          have y1:¬ y=u:=by omega
          have y2:¬ y=w:=by omega
          try simp[y2] at a1
          exact a1.trans (S2_o y k1 k2)
        have S3_t:∀ y,y<N→S3.T y=Sr.T y:=fun y k1=>by
          have a1:=hG3.T y (by first | omega | (simp;omega))
          try simp at a1
          exact a1.trans (S2_t y k1)
        have hn3:=pickK_lt c q 4 (by omega)
        generalize pickK c q 4=n3 at hn3
        simp[S3_n]
        refine LoopT.round (fun E S=>∃ (n:Nat) (qq:Nat) (X:SV) (Y:SV) (vl:List Val) (ns:List ByteArray),(S.B R=some (rdP c qq))∧(S.B u=some [.d (dI 0), .d (dI 0), .d (dS ⟨#[]⟩), .fl [] 0, .fl [] 0])∧(S.B w=some [.d (dI 5), .d (dI 0), .d (dS ⟨#[]⟩),X,Y])∧(AccD 5 S X (valsCells vl) vl.length)∧(AccD 1 S Y (ns.map dS) ns.length)∧(∀ v∈vl,Small v)∧(∀ s∈ns,s.size≤40)∧(vl.length+n≤3)∧(ns.length+n≤3)∧(qq+n*(2+pB e)≤q+1+3*(2+pB e))∧(∀ y,y<N→y≠R→S.B y=Sr.B y)∧(∀ y,y<N→S.T y=Sr.T y)∧(∀ i o cs m,X=.tp i o cs m→N≤i)∧(∀ i o cs m,Y=.tp i o cs m→N≤i)∧(w+1≤S.nx)∧E 8=some (.d (dI n))∧E 0=some (.op R 0)∧E 1=some (.d (dI (e+1:Nat)))∧E 4=some (.op u 0)∧E 6=some (.op w 0)) (fun E S=>match E 8 with | some (.d (.v (.int _ i)))=>i.toNat | _=>0) ⟨n3,q+1, .fl [] 0, .fl [] 0,[],[],by simp[S3_rd,u_S3,w_S3];exact⟨AccD.nil,AccD.nil,by omega,Nat.mul_le_mul_right _ (by omega),S3_o,S3_t,by omega⟩⟩ ?_
        rintro E S hk ⟨n,qq,X,Y,vl,ns,hrd,hBu,hBw,hA,hA1,hSm,hns,hvl,hnl,hqq,hrO2,hrT2,hXN,hYN,hnx,h8,h0,h1,h4,h6⟩
        have hn:S.n=89:=by first | (simpa using hk.n)|(have hh:=hk.n;simp[S3_n] at hh;exact hh)
        have hg:S.gl=S0.gl:=by first | (simpa using hk.gl)|(have hh:=hk.gl;simp[S3_gl] at hh;exact hh)
        have hmd:S.md=[]:=by first | (simpa using hk.md)|(have hh:=hk.md;simp[S3_md] at hh;exact hh)
        simp[h8,hn]
        refine BrT.dec (fun c2=>?_) (fun c2=>?_)
        · obtain⟨n',rfl⟩:∃ n',n=n'+1:=⟨n - 1,by omega⟩
          rw[Nat.succ_mul] at hqq
          have w3:((n'+1:Nat):Int) - 1=(n':Int):=by omega
          have w4:=wrap64 (n:=(n':Int)) (by omega) (by omega)
          simp[h0,hn,hmd,c2]
          refine CallT.x (x_of _ R c qq _ [⟨#[97]⟩,⟨#[98]⟩,⟨#[99]⟩,⟨#[114,101,102]⟩,⟨#[120,49]⟩] (.inl rfl) (by simp) (by simp) (by first | omega | (simp;omega)) (by simp[hrd]) hc (by omega)) rfl (fun r4 S4 h4=>?_)
          obtain⟨q4,hG4⟩:=h4
          subst q4
          have S4_n:=hG4.n
          try simp[hn] at S4_n
          have S4_gl:=hG4.gl
          try simp[hg] at S4_gl
          have S4_md:=hG4.md
          try simp[hmd] at S4_md
          have S4_nx:=hG4.nx
          try simp at S4_nx
          have S4_rd:=hG4.rd
          have u_S4:=hG4.old u (by first | omega | (simp;omega)) (by omega)
          try simp[hBu] at u_S4
          have w_S4:=hG4.old w (by first | omega | (simp;omega)) (by omega)
          try simp[hBw] at w_S4
          have S4_o:∀ y,y<N→y≠R→S4.B y=Sr.B y:=fun y k1 k2=>by
            have a1:=hG4.old y (by first | omega | (simp;omega)) k2
            have y1:¬ y=u:=by omega
            have y2:¬ y=w:=by omega
            try simp at a1
            exact a1.trans (hrO2 y k1 k2)
          have S4_t:∀ y,y<N→S4.T y=Sr.T y:=fun y k1=>by
            have a1:=hG4.T y (by first | omega | (simp;omega))
            try simp at a1
            exact a1.trans (hrT2 y k1)
          have hnm:=ofK_mem c qq (l:=[⟨#[97]⟩,⟨#[98]⟩,⟨#[99]⟩,⟨#[114,101,102]⟩,⟨#[120,49]⟩]) (by simp)
          generalize ofK c qq _=nm at hnm
          have hnz:nm.size≤40:=by
            simp only[List.mem_cons,List.not_mem_nil,or_false] at hnm
            rcases hnm with rfl | rfl | rfl | rfl | rfl<;>decide
          obtain⟨z1,z2,z3⟩:=hA.one
          obtain⟨t1,t2,t3⟩:=hA1.one
          have hyD:=hA1.toD
          simp[h6,S4_n,w_S4]
          repeat refine⟨DrawT.mk (by kernel_rfl),?_⟩
          refine CallT.p0 ((p_l2Has ns nm (by omega))) (by first | rfl | (simp;done)|(simp[h,n1,n2,S1_n,S1_gl,S1_md,S1_rd,u_S1,c0,S2_n,S2_gl,S2_md,S2_rd,u_S2,m1,m2,m3,m4,w1,w2,S3_n,S3_gl,S3_md,S3_rd,u_S3,w_S3,h8,h0,h1,h4,h6,hn,hg,hmd,c2,hrd,hBu,hBw,w3,w4,S4_n,S4_gl,S4_md,S4_rd,u_S4,w_S4,z1,z2,z3,t1,t2,t3,hyD];done)) (by first | rfl | (simp;done)|(simp;rfl)|(simp[hyD];done)) ?_
          simp[S4_n]
          refine BrT.mk (fun cm=>?_) (fun cm=>?_)
          · simp[h8,h0,h1,h4,h6,w4,S4_n,S4_rd,u_S4,w_S4,cm]
            have hT4:∀ i,i<S.nx→S4.T i=S.T i:=fun i hi=>hG4.T i (by first | omega | (simp;done)|(simp;omega))
            refine⟨n',qq+1,rfl,X,Y,⟨rfl,rfl⟩,vl,hA.mono (by simp;omega) hT4,ns,hA1.mono (by simp;omega) hT4,hSm,hns,by omega,by omega,by omega,S4_o,S4_t,hXN,hYN,by omega,rfl⟩
          · simp[h6,S4_n,S4_md,w_S4,cm]
            have hT4:∀ i,i<S.nx→S4.T i=S.T i:=fun i hi=>hG4.T i (by first | omega | (simp;done)|(simp;omega))
            refine OpT_addD (e:=9) (by_:=16) (by kernel_rfl) hA1 (by simp) rfl (by unfold appBound;omega) (fun i hi=>hG4.T i (by first | omega | (simp;done)|(simp;omega))) (by first | omega | (simp;done)|(simp;omega)) (by first | omega | (simp;done)|(simp;omega)) (by simp[S4_md]) (fun Y9 S9 E9 hE9 hA9 hB9 hT9 hX9 hnx9 hn9 hg9 hm9=>?_)
            rw[hE9]
            have S9_B:∀ y,S9.B y=S4.B y:=fun y=>congrFun hB9 y
            obtain⟨v1,v2,v3⟩:=hA9.one
            simp at hnx9
            simp[S4_n,S4_gl,S4_md] at hn9 hg9 hm9
            simp[w2,h0,h1,h6,w_S4,S9_B,v1,v2,hn9]
            have S9_o:∀ y,y<N→y≠R→S9.B y=Sr.B y:=fun y k1 k2=>(S9_B y).trans (S4_o y k1 k2)
            have S9_t:∀ y,y<N→S9.T y=Sr.T y:=fun y k1=>(hT9 y (by omega) (fun o cs m e=>by have:=hYN _ _ _ _ e;omega)).trans (S4_t y k1)
            have hA9':AccD 5 S9 X (valsCells vl) vl.length:=(hA.mono (S':=S4) (by omega) hT4).move (hA1.mono (S':=S4) (by omega) hT4) (by decide) (by omega) (fun y k1 k2=>hT9 y (by omega) k2)
            refine⟨DrawT.mk (by kernel_rfl),?_⟩
            obtain⟨r5,S5,hL5,v,hv,hvs,q5,hG5,hq5⟩:=ih e (by omega) ((S9.set w [SV.d (dI 5),SV.d (dI 0),SV.d (dS ⟨#[]⟩),X,Y9]).adv 10) R (qq+1) (by first | omega | (simp;omega)) (by simp[m1,S4_rd,S9_B]) (by omega) (by omega)
            have S5_n:=hG5.n
            try simp[hn9] at S5_n
            have S5_gl:=hG5.gl
            try simp[hg9] at S5_gl
            have S5_md:=hG5.md
            try simp[hm9] at S5_md
            have S5_nx:=hG5.nx
            try simp at S5_nx
            have S5_rd:=hG5.rd
            have u_S5:=hG5.old u (by first | omega | (simp;omega)) (by omega)
            try simp[m3,u_S4,S9_B] at u_S5
            have w_S5:=hG5.old w (by first | omega | (simp;omega)) (by omega)
            try simp at w_S5
            have S5_o:∀ y,y<N→y≠R→S5.B y=Sr.B y:=fun y k1 k2=>by
              have a1:=hG5.old y (by first | omega | (simp;omega)) k2
              have y1:¬ y=u:=by omega
              have y2:¬ y=w:=by omega
              try simp[y2] at a1
              exact a1.trans (S9_o y k1 k2)
            have S5_t:∀ y,y<N→S5.T y=Sr.T y:=fun y k1=>by
              have a1:=hG5.T y (by first | omega | (simp;omega))
              try simp at a1
              exact a1.trans (S9_t y k1)
            refine CallT.calm [((1,6),5)] (by kernel_rfl) (by kernel_rfl) hL5 ?_ ?_
            · simp[h6,w_S5,Eh.e,refOf]
            obtain⟨hX5,hY5⟩:=hv
            obtain⟨x1,x2,x3⟩:=hX5.one
            obtain⟨y1,y2,y3⟩:=hY5.one
            have hxD:=hX5.toD
            have hyD5:=hY5.toD
            simp[S5_n,S5_md,hxD,hyD5]
            rename_i k5 m5 s5 l5 ns5 X5 Y5
            refine OpT_addD (e:=36) (by_:=80) (by kernel_rfl) hA9' (valsCells_len _) rfl (by unfold appBound;omega) (fun i hi=>hG5.T i (by simp;omega)) (by omega) (by omega) S5_md (fun X8 S8 E8 hE8 hA8 hB8 hT8 hX8 hnx8 hn8 hg8 hm8=>?_)
            rw[hE8]
            have S8_B:∀ y,S8.B y=S5.B y:=fun y=>congrFun hB8 y
            obtain⟨o1,o2,o3⟩:=hA8.one
            rw[S5_n] at hn8
            rw[S5_gl] at hg8
            rw[S5_md] at hm8
            simp[m1,m3,h8,h0,h1,h4,h6,w4,S5_rd,u_S5,w_S5,S8_B,o1,o2,hn8]
            have e9:valsCells (vl++[Val.mk k5 m5 s5 l5 ns5])=valsCells vl++[dI k5,dI m5,dS s5, .ps (valsCells l5) l5.length, .ps (ns5.map dS) ns5.length]:=by
              rw[valsCells_row,valsCells_row];simp[Val.cells]
            have hT5:∀ i,i<S9.nx→S5.T i=S9.T i:=fun i hi=>hG5.T i (by first | omega | (simp;done)|(simp;omega))
            have hY8:AccD 1 S8 Y9 (ns.map dS++[dS nm]) (ns.length+1):=hA9.move hA9' (by decide) (by omega) (fun y k1 k2=>(hT8 y (by omega) k2).trans (hT5 y k1))
            refine⟨n',q5,rfl,X8,Y9,⟨rfl,rfl⟩,vl++[.mk k5 m5 s5 l5 ns5],?_,ns++[nm],?_,?_,?_,by simp;omega,by simp;omega,by omega,?_,?_,?_,?_,by omega,rfl⟩
            · rw[e9,List.length_append]
              exact hA8.mono (by simp) (fun _ _=>rfl)
            · rw[List.map_append,List.length_append]
              exact hY8.mono (by simp) (fun _ _=>rfl)
            · intro v hv
              rcases List.mem_append.1 hv with h | h
              · exact hSm v h
              · rw[List.mem_singleton] at h;rw[h];exact hvs
            · intro v hv
              rcases List.mem_append.1 hv with h | h
              · exact hns v h
              · rw[List.mem_singleton] at h;rw[h];exact hnz
            · intro y k1 k2
              rw[if_neg (by omega)]
              exact S5_o y k1 k2
            · intro y k1
              rw[hT8 y (by omega) (fun o cs m e=>by have:=hXN _ _ _ _ e;omega)]
              exact S5_t y k1
            · intro i o cs m e
              rcases hX8 i o cs m e with h | ⟨o',cs',m',h⟩
              · omega
              · exact hXN _ _ _ _ h
            · intro i o cs m e
              rcases hX9 i o cs m e with h | ⟨o',cs',m',h⟩
              · omega
              · exact hYN _ _ _ _ h
        · have hn0:n=0:=by omega
          subst hn0
          obtain⟨z1,z2,z3⟩:=hA.one
          obtain⟨t1,t2,t3⟩:=hA1.one
          simp[h4,h6,hn,hg,c2,hBu,hBw]
          refine⟨.mk 5 0 ⟨#[]⟩ vl ns, .mk (hA.mono (by simp) (fun _ _=>rfl)) (hA1.mono (by simp) (fun _ _=>rfl)), .mk (by decide) (by omega) (fun s hs=>by have:=hns s hs;omega) (by omega) hSm,qq,⟨rfl,rfl,rfl,by simp;omega,by simp[n1,hrd],?_,?_, .nil⟩,by omega⟩
          · intro y k1 k2
            have z1:¬ y=u:=by omega
            simp[z1]
            exact (hrO2 y (by omega) k2).trans (by rw[hSr])
          · intro y k1
            exact (hrT2 y (by omega)).trans (by rw[hSr])
end Go.Proofs.YtlmpjblmmpddeaaGreat
namespace Go.Proofs.YtlmpjblmmpddeaaGreat
open Go.Sh
theorem mapO_app {α β:Type}{f:α→Option β}:∀ {a b:List α}{x y:List β},mapO f a=some x→mapO f b=some y→mapO f (a++b)=some (x++y)
  | [],b,x,y,h,h'=>by cases h;exact h'
  | p::a,b,x,y,h,h'=>by
    rw[mapO_cons] at h
    cases hp:f p with
    | none=>rw[hp] at h;cases h
    | some q =>
      cases ha:mapO f a with
      | none=>rw[hp,ha] at h;cases h
      | some z =>
        rw[hp,ha] at h
        cases h
        rw[List.cons_append,mapO_cons,hp,mapO_app ha h']
        rfl
theorem depL_app:∀ a b:List Sk,depL (a++b)=max (depL a) (depL b)
  | [],b=>by simp[depL]
  | x::r,b=>by simp only[List.cons_append,depL,depL_app r b];omega
structure LstF (S:St) (lo hi:Nat) (r:SV) (L:List Def):Prop where
  of:∃ b cs,r=.sk b L.length 4∧lo≤b∧b<hi∧S.B b=some cs∧∀ B':Nat→Option (List SV),(∀ x,lo≤x→x<hi→x≠b→B' x=S.B x)→mapO (frz B' 12) cs=some (defsCells L)
theorem LstF.keep {S S':St}{lo hi lo' hi':Nat}{r:SV}{L:List Def} (h:LstF S lo hi r L) (hB:∀ x,lo≤x→x<hi→S'.B x=S.B x) (h1:lo'≤lo) (h2:hi≤hi'):LstF S' lo' hi' r L:=by
  obtain⟨b,cs,e1,e2,e3,e4,e5⟩:=h.of
  exact⟨b,cs,e1,by omega,by omega,(hB b e2 e3).trans e4,fun B' hB'=>e5 B' fun x k1 k2 k3=>(hB' x (by omega) (by omega) k3).trans (hB x k1 k2)⟩
theorem LstF.frz {S:St}{lo hi:Nat}{r:SV}{L:List Def} (h:LstF S lo hi r L):mapO (Go.Sh.frz S.B 13) [r]=some [defsD L]:=by
  obtain⟨b,cs,rfl,e2,e3,e4,e5⟩:=h.of
  have h5:=e5 S.B fun _ _ _ _=>rfl
  have:Go.Sh.frz S.B 13 (.sk b L.length 4)=some (defsD L):=by
    rw[Go.Sh.frz,e4]
    show Option.map (fun ds=>D.ps ds L.length) (mapO (Go.Sh.frz S.B 12) cs)=_
    rw[h5];rfl
  simp[this]
theorem LstF.one {S:St}{lo hi:Nat}{r:SV}{L:List Def} (h:LstF S lo hi r L):r.one=true∧r.cells=[r]∧r.cell=true:=by
  obtain⟨b,cs,rfl,_⟩:=h.of
  exact⟨rfl,rfl,rfl⟩
structure LstG (S:St) (lo hi:Nat) (r:SV) (L:List Def):Prop where
  of:∃ b cs M,r=.sk b L.length 4∧lo≤b∧b<hi∧S.B b=some cs∧∀ B':Nat→Option (List SV),(∀ x,lo≤x→x<hi→x≠b→B' x=S.B x)→mapO (Go.Sh.frz B' 12) cs=some (defsCells L++M)
theorem LstF.g {S:St}{lo hi:Nat}{r:SV}{L:List Def} (h:LstF S lo hi r L):LstG S lo hi r L:=by
  obtain⟨b,cs,e1,e2,e3,e4,e5⟩:=h.of
  exact⟨b,cs,[],e1,e2,e3,e4,fun B' hB'=>by rw[List.append_nil];exact e5 B' hB'⟩
theorem LstG.keep {S S':St}{lo hi lo' hi':Nat}{r:SV}{L:List Def} (h:LstG S lo hi r L) (hB:∀ x,lo≤x→x<hi→S'.B x=S.B x) (h1:lo'≤lo) (h2:hi≤hi'):LstG S' lo' hi' r L:=by
  obtain⟨b,cs,M,e1,e2,e3,e4,e5⟩:=h.of
  exact⟨b,cs,M,e1,by omega,by omega,(hB b e2 e3).trans e4,fun B' hB'=>e5 B' fun x k1 k2 k3=>(hB' x (by omega) (by omega) k3).trans (hB x k1 k2)⟩
theorem LstG.frz {S:St}{lo hi:Nat}{r:SV}{L:List Def} (h:LstG S lo hi r L):∃ M,mapO (Go.Sh.frz S.B 13) [r]=some [.ps (defsCells L++M) L.length]:=by
  obtain⟨b,cs,M,rfl,e2,e3,e4,e5⟩:=h.of
  have h5:=e5 S.B fun _ _ _ _=>rfl
  refine⟨M,?_⟩
  have:Go.Sh.frz S.B 13 (.sk b L.length 4)=some (.ps (defsCells L++M) L.length):=by
    rw[Go.Sh.frz,e4]
    show Option.map (fun ds=>D.ps ds L.length) (mapO (Go.Sh.frz S.B 12) cs)=_
    rw[h5];rfl
  simp[this]
theorem PV.cut {m:Nat→Nat}{w:World}{ds M:List D}{n:Nat}{v:Value} (h:PV m w (.ps (ds++M) n) v):PV m w (.ps ds n) v:=by
  generalize e:ds++M=cs at h
  cases h with
  | nil=>rw[(List.append_eq_nil_iff.1 e).1];exact .nil
  | pz h=>rw[(List.append_eq_nil_iff.1 e).1];exact .pz h
  | ps us hn hc hk hv =>
    subst e
    refine .ps us hn (fun j hj=>hc j (by simp;omega)) (fun j hj=>?_) (fun j hj=>?_)
    · have:=hk j (by simp;omega)
      rwa [List.getElem_append_left hj] at this
    · have:=hv j (by simp;omega)
      rwa [List.getElem_append_left hj] at this
theorem PCall.cut {P:Program}{gl:Nat→Option D}{f:FuncId}{ds M:List D}{n:Nat}{al:List D}{r:D} (h:PCall P gl f (.ps ds n::al) r):PCall P gl f (.ps (ds++M) n::al) r :=
  ⟨h.1,fun m w vals h1 h2 h3 h4=>h.2 m w vals h1 h2 h3 fun j hj hj'=>by
    cases j with
    | zero=>exact PV.cut (h4 0 (by simp) hj')
    | succ j=>exact h4 (j+1) hj hj'⟩
theorem lst_of {S:St}{lo hi b:Nat}{A Z:List Ld}{c:List SV}{LA LZ:List Def}{d:Def} (hb:lo≤b) (hb2:b<hi) (hB:S.B b=some (svs A++(c++svs Z))) (hA:shs A=rowsZ Def.sz LA) (hZ:shs Z=rowsZ Def.sz LZ) (dA:depL (shs A)<12) (dZ:depL (shs Z)<12)
    (hat:∀ p∈varsL (A++Z),lo≤p.1∧p.1<hi∧p.1≠b∧S.B p.1=some p.2) (hc:∀ B':Nat→Option (List SV),(∀ x,lo≤x→x<hi→x≠b→B' x=S.B x)→mapO (frz B' 12) c=some d.cells) {n:Nat} (hn:n=(LA++d::LZ).length) :
    LstF S lo hi (.sk b n 4) (LA++d::LZ):=by
  subst hn
  refine⟨b,_,rfl,hb,hb2,hB,fun B' hB'=>?_⟩
  have hv:∀ p∈varsL (A++Z),B' p.1=some p.2:=fun p hp=>by
    obtain⟨h1,h2,h3,h4⟩:=hat p hp
    rw[hB' _ h1 h2 h3,h4]
  have h1:=(frz_lds (B:=B') A 12 (fun p hp=>hv p (by rw[varsL_app];exact List.mem_append_left _ hp)) dA).1
  have h2:=(frz_lds (B:=B') Z 12 (fun p hp=>hv p (by rw[varsL_app];exact List.mem_append_right _ hp)) dZ).1
  have e:defsCells (LA++d::LZ)=dataL (shs A)++(d.cells++dataL (shs Z)):=by
    rw[hA,hZ,rowsZ_data def_szdata,rowsZ_data def_szdata]
    simp[defsCells]
  rw[e]
  exact mapO_app h1 (mapO_app (hc B' hB') h2)
theorem lst_two {S:St}{lo hi b:Nat}{A Z:List Ld}{LA LZ:List Def} (hb:lo≤b) (hb2:b<hi) (hB:S.B b=some (svs A++svs Z)) (hA:shs A=rowsZ Def.sz LA) (hZ:shs Z=rowsZ Def.sz LZ) (dA:depL (shs A)<12) (dZ:depL (shs Z)<12)
    (hat:∀ p∈varsL (A++Z),lo≤p.1∧p.1<hi∧p.1≠b∧S.B p.1=some p.2) {n:Nat} (hn:n=(LA++LZ).length):LstF S lo hi (.sk b n 4) (LA++LZ):=by
  subst hn
  refine⟨b,_,rfl,hb,hb2,hB,fun B' hB'=>?_⟩
  have hv:∀ p∈varsL (A++Z),B' p.1=some p.2:=fun p hp=>by
    obtain⟨h1,h2,h3,h4⟩:=hat p hp
    rw[hB' _ h1 h2 h3,h4]
  have h1:=(frz_lds (B:=B') A 12 (fun p hp=>hv p (by rw[varsL_app];exact List.mem_append_left _ hp)) dA).1
  have h2:=(frz_lds (B:=B') Z 12 (fun p hp=>hv p (by rw[varsL_app];exact List.mem_append_right _ hp)) dZ).1
  have e:defsCells (LA++LZ)=dataL (shs A)++dataL (shs Z):=by
    rw[hA,hZ,rowsZ_data def_szdata,rowsZ_data def_szdata]
    simp[defsCells]
  rw[e]
  exact mapO_app h1 h2
theorem split_shs:∀ {X Y:List Sk}{cs:List Ld},shs cs=X++Y→∃ a b,cs=a++b∧shs a=X∧shs b=Y
  | [],Y,cs,h=>⟨[],cs,rfl,rfl,h⟩
  | x::X,Y,[],h=>by simp[shs] at h
  | x::X,Y,c::cs,h=>by
    simp only[shs,List.cons_append,List.cons.injEq] at h
    obtain⟨a,b,rfl,h1,h2⟩:=split_shs h.2
    exact⟨c::a,b,rfl,by simp[shs,h.1,h1],h2⟩
theorem rows_split {α:Type} (f:α→List Sk) (l:List α) {i:Nat} (h:i<l.length):rowsZ f l=rowsZ f (l.take i)++(f l[i]++rowsZ f (l.drop (i+1))):=by
  have e:l=l.take i++(l[i]::l.drop (i+1)):=by rw[← List.drop_eq_getElem_cons h,List.take_append_drop]
  conv=>lhs;rw[e]
  simp only[rowsZ,List.flatMap_append,List.flatMap_cons]
theorem LstF.add {S S':St}{lo hi b n id hi':Nat}{L:List Def}{e:Def}{cs:List SV} (h:LstF S lo hi (.sk b n 4) L) (hb:S.B b=some cs) (hB:S'.B id=some (cs++e.cells.map .d)) (ho:∀ x,x≠b→x≠id→x<hi→S'.B x=S.B x) (h1:hi≤id) (h2:id<hi'):LstF S' lo hi' (.sk id (n+1) 4) (L++[e]):=by
  obtain⟨b',cs',e1,e2,e3,e4,e5⟩:=h.of
  cases e1
  rw[hb] at e4
  cases e4
  refine⟨id,_,by simp,by omega,h2,hB,fun B' hB'=>?_⟩
  have e6:defsCells (L++[e])=defsCells L++e.cells:=by simp[defsCells]
  rw[e6]
  refine mapO_app (e5 B' fun x k1 k2 k3=>?_) (mapO_d 11 _)
  rw[hB' x k1 (by omega) (by omega),ho x k3 (by omega) k2]
theorem drop_add {α:Type}{A:List α}{n:Nat} (h:A.length=n) (j:Nat) (Y:List α):(A++Y).drop (n+j)=Y.drop j:=by
  subst h
  simp[List.drop_append]
theorem take_add {α:Type}{A:List α}{n:Nat} (h:A.length=n) (j:Nat) (Y:List α):(A++Y).take (n+j)=A++Y.take j:=by
  subst h
  rw[List.take_append,List.take_of_length_le (by omega)]
  simp
theorem nodup_mid {X Y:List Nat}{b:Nat} (h:(X++b::Y).Nodup):∀ x∈X++Y,x≠b:=by
  have h1:=(List.perm_middle.nodup_iff.1 h)
  rw[List.nodup_cons] at h1
  exact fun x hx e=>h1.1 (e▸hx)
theorem vars_mid {A Z:List Ld}{n0 k0:Value}{z:Option Nat}{b2 m:Nat}{fc:List Ld}{w:Ld} (h:((varsL (A++([.d n0, .d k0, .row z b2 m fc,w]++Z))).map (·.1)).Nodup):(∀ p∈varsL (A++Z),p.1≠b2)∧(∀ p∈varsL fc,p.1≠b2)∧∀ p∈w.vars,p.1≠b2:=by
  have e:(varsL (A++([.d n0, .d k0, .row z b2 m fc,w]++Z))).map (·.1)=(varsL A).map (·.1)++b2::((varsL fc).map (·.1)++(w.vars.map (·.1)++(varsL Z).map (·.1))):=by
    rw[varsL_app,varsL_app]
    simp[varsL,Ld.vars]
  rw[e] at h
  have h1:=nodup_mid h
  refine⟨fun p hp=>h1 _ ?_,fun p hp=>h1 _ ?_,fun p hp=>h1 _ ?_⟩
  · rw[varsL_app] at hp
    rcases List.mem_append.1 hp with hp | hp
    · exact List.mem_append_left _ (List.mem_map_of_mem hp)
    · exact List.mem_append_right _ (List.mem_append_right _ (List.mem_append_right _ (List.mem_map_of_mem hp)))
  · exact List.mem_append_right _ (List.mem_append_left _ (List.mem_map_of_mem hp))
  · exact List.mem_append_right _ (List.mem_append_right _ (List.mem_append_left _ (List.mem_map_of_mem hp)))
theorem sh_d {x:Ld}{v:Value} (h:x.sh=.d v):x=.d v:=by
  cases x<;>simp[Ld.sh] at h
  rw[h]
theorem four_of {l:List Ld} (h:l.length=4):∃ a b c d,l=[a,b,c,d]:=by
  match l,h with
  | [a,b,c,d],_=>exact⟨a,b,c,d,rfl⟩
theorem mapO4 {α β:Type}{f:α→Option β}{a b c d:α}{x y z w:β} (h1:f a=some x) (h2:f b=some y) (h3:f c=some z) (h4:f d=some w):mapO f [a,b,c,d]=some [x,y,z,w]:=by
  simp[mapO,h1,h2,h3,h4]
theorem defs_split {cs:List Ld}{L:List Def}{k:Nat} (h:shs cs=rowsZ Def.sz L) (hk:k<L.length):∃ A f w Z LA d LZ,cs=A++([.d (.string d.name), .d (.int .i64 d.kind),f,w]++Z)∧L=LA++d::LZ∧LA.length=k∧A.length=k*4∧shs A=rowsZ Def.sz LA∧shs Z=rowsZ Def.sz LZ∧f.sh=skZ 5 d.flds.length (rowsZ Fld.sz d.flds)∧w.sh=skT d.words:=by
  rw[rows_split Def.sz L hk] at h
  obtain⟨A,W,rfl,hA,hW⟩:=split_shs h
  obtain⟨D4,Z,rfl,hD,hZ⟩:=split_shs hW
  obtain⟨n0,k0,f,w,rfl⟩:=four_of (by rw[← shs_len,hD];simp:D4.length=4)
  simp only[shs,Def.sz,List.cons.injEq,and_true] at hD
  obtain⟨h1,h2,h3,h4⟩:=hD
  have h1:=sh_d h1
  have h2:=sh_d h2
  subst h1
  subst h2
  refine⟨A,f,w,Z,L.take k,L[k],L.drop (k+1),rfl,?_,by simp;omega,?_,hA,hZ,h3,h4⟩
  · rw[← List.drop_eq_getElem_cons hk,List.take_append_drop]
  · rw[← shs_len,hA,rowsZ_len (fun x=>by simp:∀ x:Def,(Def.sz x).length=4)]
    simp;omega
theorem flds_split {cs:List Ld}{L:List Fld}{k:Nat} (h:shs cs=rowsZ Fld.sz L) (hk:k<L.length):∃ A a T Z LA d LZ,cs=A++([.d (.string d.name),a]++(T++Z))∧L=LA++d::LZ∧LA.length=k∧A.length=k*5∧shs A=rowsZ Fld.sz LA∧shs Z=rowsZ Fld.sz LZ∧a.sh=skZ 10 d.args.length (rowsZ Arg.sz d.args)∧shs T=d.ty.sz:=by
  rw[rows_split Fld.sz L hk] at h
  obtain⟨A,W,rfl,hA,hW⟩:=split_shs h
  obtain⟨D5,Z,rfl,hD,hZ⟩:=split_shs hW
  have hD2:shs D5=[.d (.string L[k].name),skZ 10 L[k].args.length (rowsZ Arg.sz L[k].args)]++L[k].ty.sz:=hD
  obtain⟨D2,T,rfl,hE,hT⟩:=split_shs hD2
  obtain⟨n0,a,rfl⟩:∃ a b,D2=[a,b]:=by
    have:D2.length=2:=by rw[← shs_len,hE];rfl
    match D2,this with
    | [a,b],_=>exact⟨a,b,rfl⟩
  simp only[shs,List.cons.injEq,and_true] at hE
  obtain⟨h1,h2⟩:=hE
  have h1:=sh_d h1
  subst h1
  refine⟨A,a,T,Z,L.take k,L[k],L.drop (k+1),by simp,?_,by simp;omega,?_,hA,hZ,h2,hT⟩
  · rw[← List.drop_eq_getElem_cons hk,List.take_append_drop]
  · rw[← shs_len,hA,rowsZ_len (fun x=>by simp:∀ x:Fld,(Fld.sz x).length=5)]
    simp;omega
end Go.Proofs.YtlmpjblmmpddeaaGreat
namespace Go.Proofs.YtlmpjblmmpddeaaGreat
open Go.Sh
variable {gl:Nat→Option D}
set_option maxHeartbeats 4000000 in
theorem p_dec1:PCall Tryz.prog gl 100 [dI 1] (dS ⟨#[49]⟩):=by
  refine PCall.by_ (md:=[]) Tryz.func100 rfl (by kernel_rfl) (n:=28) Tryz.ntmps100 (by simp) (by decide) rfl ?_
  simp
  rfl
set_option maxHeartbeats 4000000 in
theorem p_dec7:PCall Tryz.prog gl 100 [dI 7] (dS ⟨#[55]⟩):=by
  refine PCall.by_ (md:=[]) Tryz.func100 rfl (by kernel_rfl) (n:=28) Tryz.ntmps100 (by simp) (by decide) rfl ?_
  simp
  rfl
set_option maxHeartbeats 4000000 in
theorem p_dec8:PCall Tryz.prog gl 100 [dI 8] (dS ⟨#[56]⟩):=by
  refine PCall.by_ (md:=[]) Tryz.func100 rfl (by kernel_rfl) (n:=28) Tryz.ntmps100 (by simp) (by decide) rfl ?_
  simp
  rfl
set_option maxHeartbeats 4000000 in
theorem p_dec9:PCall Tryz.prog gl 100 [dI 9] (dS ⟨#[57]⟩):=by
  refine PCall.by_ (md:=[]) Tryz.func100 rfl (by kernel_rfl) (n:=28) Tryz.ntmps100 (by simp) (by decide) rfl ?_
  simp
  rfl
set_option maxHeartbeats 4000000 in
theorem p_dec10:PCall Tryz.prog gl 100 [dI 10] (dS (⟨#[49]⟩++⟨#[48]⟩)):=by
  refine PCall.by_ (md:=[]) Tryz.func100 rfl (by kernel_rfl) (n:=28) Tryz.ntmps100 (by simp) (by decide) rfl ?_
  simp
  repeat refine⟨DrawT.mk (by kernel_rfl),?_⟩
  refine CallT.p0 ((p_dec1)) (by first | rfl | (simp;done)|(simp;done)) (by first | rfl | (simp;done)|(simp;rfl)|(simp;done)) ?_
  simp
  have e:strOfNums [IntKind.u8.wrap 48]=⟨#[48]⟩:=by decide +kernel
  rw[e,if_pos (by decide)]
  simp
theorem p_decs (n:Nat) (h7:7≤n) (h10:n≤10):∃ s:ByteArray,s.size≤2∧∀ gl,PCall Tryz.prog gl 100 [dI n] (dS s):=by
  rcases (by omega:n=7∨n=8∨n=9∨n=10) with rfl | rfl | rfl | rfl
  · exact⟨_,by decide,fun gl=>p_dec7⟩
  · exact⟨_,by decide,fun gl=>p_dec8⟩
  · exact⟨_,by decide,fun gl=>p_dec9⟩
  · exact⟨_,by decide,fun gl=>p_dec10⟩
end Go.Proofs.YtlmpjblmmpddeaaGreat
