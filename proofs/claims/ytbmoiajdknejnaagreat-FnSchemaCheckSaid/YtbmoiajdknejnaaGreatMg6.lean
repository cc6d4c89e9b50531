/- Vf and what follows it, one behind another. -/
import Derived.Test.YtbmoiajdknejnaaGreatMg5
set_option linter.unusedVariables false
set_option linter.unusedSimpArgs false
set_option maxRecDepth 100000
namespace Go.Proofs.YtbmoiajdknejnaaGreat
open Go.Sh
variable {gl:Nat→Option D}
def rdMu (R n:Nat) (_:Env) (S:St):Nat:=match S.B R with | some [_, .d (.v (.int _ i)),_]=>n - i.toNat | _=>0
theorem rdMu_lt {R n i j:Nat}{ws:List ByteArray}{b b':Bool}{E E':Env}{S S':St} (h:S.B R=some (rdC ws i b)) (h':S'.B R=some (rdC ws j b')) (hij:i<j) (hj:j≤n):rdMu R n E' S'<rdMu R n E S:=by
  unfold rdMu
  rw[h,h']
  simp
  omega
theorem rows_add {α:Type} (f:α→List Sk) (l:List α) (x:α):rowsZ f (l++[x])=rowsZ f l++f x:=by simp[rowsZ]
theorem AccZ.pos {S:St}{lo hi z n:Nat}{sk:List Sk}{X:SV} (h:AccZ S lo hi z n sk X) (hn:n≠0):∃ b,X=.sk b n z:=by
  obtain⟨x,rfl,e2,_⟩:=h
  rcases ld_z e2 with ⟨_,h0⟩ | ⟨b,cs,rfl,_,_⟩
  · exact absurd h0 hn
  · exact⟨b,rfl⟩
theorem OpT_addZ2 {P:Program}{S1 S:St}{lo hi z n:Nat}{sk:List Sk}{X:SV}{xs:List SV}{lo2 hi2 id:Nat}{dst:Option Nat}{T e by_:Nat}{K:Bool→SV→Eff→Prop} (N:List Ld) (hT:appOf P T=some (e,z,by_))
    (h:AccZ S1 lo hi z n sk X) (hl:sk.length=n*z) (hb:appBound n 1 by_) (hx:xs=svs N) (hNl:N.length=z) (h0:lo≤hi) (h1:hi≤lo2) (h2:lo2≤hi2) (h3:hi2≤id) (hS:∀ b,lo≤b→b<hi→S.B b=S1.B b) (hN:At S lo2 hi2 N)
    (hK:∀ X' S' E',S.app id E'=S'→AccZ S' lo (id+1) z (n+1) (sk++shs N) X'→(∀ b,(b<lo∨hi≤b)→b≠id→S'.B b=S.B b)→SameT S S'→K true X' E'):OpT (evalAppend P S id dst T X (.ls xs 1)) K :=
  OpT_addZ h hl hS hx hN hNl hT hb h1 (by omega) (by omega) (by omega) (by omega) (by omega) (fun p hp=>by have:=hN.rng p hp;omega) hK
theorem three_of {l:List Ld} (h:l.length=3):∃ a b c,l=[a,b,c]:=by
  match l,h with
  | [a,b,c],_=>exact⟨a,b,c,rfl⟩
theorem five_of {l:List Ld} (h:l.length=5):∃ a b c d e,l=[a,b,c,d,e]:=by
  match l,h with
  | [a,b,c,d,e],_=>exact⟨a,b,c,d,e,rfl⟩
structure FldI (S0 Sr S:St) (R N v:Nat) (ws:List ByteArray) (q:Nat) (nm:ByteArray) (Y:SV) (l:List Arg):Prop where
  n:S.n=81
  gl:S.gl=S0.gl
  md:S.md=[1000057,1000076]
  nx:v+1≤S.nx
  rd:S.B R=some (rdC ws q false)
  cell:S.B v=some [.d (dS nm),Y, .d (dS ⟨#[]⟩), .fl [] 0, .d (dB false)]
  row:AccZ S (v+1) S.nx 10 l.length (rowsZ Arg.sz l) Y
  old:∀ y,y<N→y≠R→S.B y=Sr.B y
  T:∀ y,y<N→S.T y=Sr.T y
set_option maxHeartbeats 16000000 in
theorem l_fields (ws:List ByteArray) (hl:ws.length≤1048576) (S0:St) (R i0 j:Nat) (L:List Fld) (hb:wd ws i0=⟨#[123]⟩) (hp:pFlds ws ws.length (i0+1)=some (L,j)) (hR:R<S0.nx) (h:S0.B R=some (rdC ws i0 false)) :
    ∃ r S',LCall Tryz.prog 292 [.op R 0] S0 r S'∧∃ x:Ld,r=x.sv∧x.sh=skZ 5 L.length (rowsZ Fld.sz L)∧Got S0 S' R (rdC ws (j+1) false) [x]:=by
  have hj:=pFlds_le hp
  have hi0:=wd_lt (ws:=ws) (i:=i0) (by rw[hb];decide)
  refine LCall.ex_ (md:=[1000057,1000076]) Tryz.func292 rfl (by kernel_rfl) (by kernel_rfl) (n:=81) Tryz.ntmps292 (by simp) (by decide) rfl ?_
  simp[h]
  generalize hu:S0.nx=u at *
  refine CallT.x (l_must _ R ws i0 false ⟨#[123]⟩ (by simp;omega) (by simp[h]) hl (by omega) hb) rfl (fun r1 S1 hG1=>?_)
  have S1_n:=hG1.n
  try simp at S1_n
  have S1_gl:=hG1.gl
  try simp[S1_n] at S1_gl
  have S1_md:=hG1.md
  try simp[S1_n,S1_gl] at S1_md
  have S1_nx:=hG1.nx
  try simp[S1_n,S1_gl,S1_md] at S1_nx
  have S1_rd:=hG1.rd
  simp[S1_n,S1_gl,S1_md,S1_rd]
  refine LoopT.round (fun E S=>∃ (f:Nat) (i:Nat) (done:List Fld) (rest:List Fld) (X:SV),(pFlds ws f i=some (rest,j))∧(done++rest=L)∧(S.B R=some (rdC ws i false))∧(AccZ S u S.nx 5 done.length (rowsZ Fld.sz done) X)∧(∀ y,y<u→y≠R→S.B y=S0.B y)∧(∀ y,y<u→S.T y=S0.T y)∧(u≤S.nx)∧E 0=some (.op R 0)∧E 3=some (X)) (rdMu R ws.length) ⟨ws.length,i0+1,[],L, .fl [] 0,by simp[S1_n,S1_gl,S1_md,S1_rd];exact⟨hp,AccZ.nil,fun y k1 k2=>by have:=hG1.old y (by simp;omega) k2;simpa using this,fun y k1=>by have:=hG1.T y (by simp;omega);simpa using this,by omega⟩⟩ ?_
  rintro E S hk ⟨f,i,done,rest,X,hpf,hL,hrd,hA,ho,hT,hnx,h0,h3⟩
  have hn:S.n=81:=by first | (simpa using hk.n)|(have hh:=hk.n;simp[S1_n,S1_gl,S1_md,S1_rd] at hh;exact hh)
  have hg:S.gl=S0.gl:=by first | (simpa using hk.gl)|(have hh:=hk.gl;simp[S1_n,S1_gl,S1_md,S1_rd] at hh;exact hh)
  have hmd:S.md=[1000057,1000076]:=by first | (simpa using hk.md)|(have hh:=hk.md;simp[S1_n,S1_gl,S1_md,S1_rd] at hh;exact hh)
  simp[S1_n,S1_gl,S1_md,S1_rd,h0,h3,hn,hg,hmd]
  obtain⟨f,rfl⟩:∃ g,f=g+1:=by
    cases f with
    | zero=>cases hpf
    | succ g=>exact⟨g,rfl⟩
  have hle:=pFlds_le hpf
  have n1:¬ R=u:=by omega
  refine CallT.l (l_peek (ws:=ws) (i:=i) (bad:=false) (by simp[S1_n,S1_gl,S1_md,S1_rd,h0,h3,hn,hg,hmd,hrd]) hl (by omega)) rfl ?_
  rcases pFlds_some hpf with ⟨e1,rfl,rfl⟩ | ⟨e1,a,i',rest',ha,hpf',rfl⟩
  · have e1':=e1
    simp[S1_n,S1_gl,S1_md,S1_rd,h0,h3,hn,hg,hmd,hrd,e1]
    refine CallT.x (l_must _ R ws j false ⟨#[125]⟩ (by simp;omega) (by simp[S1_n,S1_gl,S1_md,S1_rd,h0,h3,hn,hg,hmd,hrd,e1]) hl (by omega) e1') rfl (fun r2 S2 hG2=>?_)
    have S2_n:=hG2.n
    try simp[S1_n,S1_gl,S1_md,S1_rd,h0,h3,hn,hg,hmd,hrd,e1] at S2_n
    have S2_gl:=hG2.gl
    try simp[S1_n,S1_gl,S1_md,S1_rd,h0,h3,hn,hg,hmd,hrd,e1,S2_n] at S2_gl
    have S2_md:=hG2.md
    try simp[S1_n,S1_gl,S1_md,S1_rd,h0,h3,hn,hg,hmd,hrd,e1,S2_n,S2_gl] at S2_md
    have S2_nx:=hG2.nx
    try simp[S1_n,S1_gl,S1_md,S1_rd,h0,h3,hn,hg,hmd,hrd,e1,S2_n,S2_gl,S2_md] at S2_nx
    have S2_rd:=hG2.rd
    simp[S1_n,S1_gl,S1_md,S1_rd,h0,h3,hn,hg,hmd,hrd,e1,S2_n,S2_gl,S2_md,S2_rd]
    obtain⟨x,x1,x2,x3⟩:=hA
    refine⟨x,x1,by rw[← hL,List.append_nil];exact x2,rfl,rfl,rfl,by simp;omega,by simpa using S2_rd,fun y k1 k2=>?_,fun y k1=>?_,?_⟩
    · have a2:=hG2.old y (by simp;omega) k2
      simp at a2 ⊢
      exact a2.trans (ho y (by omega) k2)
    · have a2:=hG2.T y (by simp;omega)
      simp at a2 ⊢
      exact a2.trans (hT y (by omega))
    · refine (x3.keep fun b k1 k2=>?_).le (by omega) (by simp;omega)
      have a2:=hG2.old b (by simp;omega) (by omega)
      simpa using a2
  · have hle2:=pFld_le ha
    obtain⟨a1,l,q,t,a2,a3,a4,rfl⟩:=pFld_some ha
    have hdl0:done.length+1≤ws.length:=by
      have:=pFlds_len hp
      rw[← hL] at this
      simp at this
      omega
    obtain⟨Sr,hSr⟩:∃ Sr,S=Sr:=⟨_,rfl⟩
    obtain⟨N,hN⟩:∃ N,S.nx=N:=⟨_,rfl⟩
    have hrO:∀ y,y<N→y≠R→S.B y=Sr.B y:=fun y _ _=>by rw[hSr]
    have hrT:∀ y,y<N→S.T y=Sr.T y:=fun y _=>by rw[hSr]
    have hi1:=nameB_lt a1
    simp[S1_n,S1_gl,S1_md,S1_rd,h0,h3,hn,hg,hmd,hrd,e1]
    refine CallT.x (l_name _ R ws i false (by simp;omega) (by simp[S1_n,S1_gl,S1_md,S1_rd,h0,h3,hn,hg,hmd,hrd,e1]) hl (by omega) a1 (by have:=nameB_size a1;omega)) rfl (fun r2 S2 h2=>?_)
    obtain⟨q2,hG2⟩:=h2
    subst q2
    have S2_n:=hG2.n
    try simp[S1_n,S1_gl,S1_md,S1_rd,h0,h3,hn,hg,hmd,hrd,e1] at S2_n
    have S2_gl:=hG2.gl
    try simp[S1_n,S1_gl,S1_md,S1_rd,h0,h3,hn,hg,hmd,hrd,e1,S2_n] at S2_gl
    have S2_md:=hG2.md
    try simp[S1_n,S1_gl,S1_md,S1_rd,h0,h3,hn,hg,hmd,hrd,e1,S2_n,S2_gl] at S2_md
    have S2_nx:=hG2.nx
    try simp[S1_n,S1_gl,S1_md,S1_rd,h0,h3,hn,hg,hmd,hrd,e1,S2_n,S2_gl,S2_md] at S2_nx
    have S2_rd:=hG2.rd
    have S2_o:∀ y,y<N→y≠R→S2.B y=Sr.B y:=fun y k1 k2=>by
      have a1:=hG2.old y (by first | omega | (simp;omega)) k2
      try simp[] at a1
      exact a1.trans (hrO y k1 k2)
    have S2_t:∀ y,y<N→S2.T y=Sr.T y:=fun y k1=>by
      have a1:=hG2.T y (by first | omega | (simp;omega))
      try simp at a1
      exact a1.trans (hrT y k1)
    simp[S1_n,S1_gl,S1_md,S1_rd,h0,h3,hn,hg,hmd,hrd,e1,S2_n,S2_gl,S2_md,S2_rd]
    obtain⟨v,hv⟩:∃ v,S.nx+10+3=v:=⟨_,rfl⟩
    have nRv:¬ R=v:=by omega
    have nvR:¬ v=R:=by omega
    rw[hv]
    refine CallT.l (l_peek (ws:=ws) (i:=i+1) (bad:=false) (by simp[S1_n,S1_gl,S1_md,S1_rd,h0,h3,hn,hg,hmd,hrd,e1,S2_n,S2_gl,S2_md,S2_rd,nRv,nvR]) hl (by omega)) rfl ?_
    rcases pBra_some a2 with ⟨b1,b2,q',b3,rfl⟩ | ⟨b1,rfl,rfl⟩
    case' inl =>
      have hq':=pArgs_le b3
      have b1':=b1
      simp[S1_n,S1_gl,S1_md,S1_rd,h0,h3,hn,hg,hmd,hrd,e1,S2_n,S2_gl,S2_md,S2_rd,nRv,nvR,b1]
      refine CallT.x (l_next _ R ws (i+1) false (by simp;omega) (by simp[S1_n,S1_gl,S1_md,S1_rd,h0,h3,hn,hg,hmd,hrd,e1,S2_n,S2_gl,S2_md,S2_rd,nRv,nvR,b1]) hl (by omega)) rfl (fun r3 S3 h3=>?_)
      obtain⟨q3,hG3⟩:=h3
      subst q3
      have S3_n:=hG3.n
      try simp[S1_n,S1_gl,S1_md,S1_rd,h0,h3,hn,hg,hmd,hrd,e1,S2_n,S2_gl,S2_md,S2_rd,nRv,nvR,b1] at S3_n
      have S3_gl:=hG3.gl
      try simp[S1_n,S1_gl,S1_md,S1_rd,h0,h3,hn,hg,hmd,hrd,e1,S2_n,S2_gl,S2_md,S2_rd,nRv,nvR,b1,S3_n] at S3_gl
      have S3_md:=hG3.md
      try simp[S1_n,S1_gl,S1_md,S1_rd,h0,h3,hn,hg,hmd,hrd,e1,S2_n,S2_gl,S2_md,S2_rd,nRv,nvR,b1,S3_n,S3_gl] at S3_md
      have S3_nx:=hG3.nx
      try simp[S1_n,S1_gl,S1_md,S1_rd,h0,h3,hn,hg,hmd,hrd,e1,S2_n,S2_gl,S2_md,S2_rd,nRv,nvR,b1,S3_n,S3_gl,S3_md] at S3_nx
      have S3_rd:=hG3.rd
      have v_S3:=hG3.old v (by first | omega | (simp;omega)) (by omega)
      try simp[S1_n,S1_gl,S1_md,S1_rd,h0,h3,hn,hg,hmd,hrd,e1,S2_n,S2_gl,S2_md,S2_rd,nRv,nvR,b1,S3_n,S3_gl,S3_md,S3_rd] at v_S3
      have S3_o:∀ y,y<N→y≠R→S3.B y=Sr.B y:=fun y k1 k2=>by
        have a1:=hG3.old y (by first | omega | (simp;omega)) k2
        have y1:¬ y=v:=by omega
        try simp[y1] at a1
        exact a1.trans (S2_o y k1 k2)
      have S3_t:∀ y,y<N→S3.T y=Sr.T y:=fun y k1=>by
        have a1:=hG3.T y (by first | omega | (simp;omega))
        try simp at a1
        exact a1.trans (S2_t y k1)
      simp[S1_n,S1_gl,S1_md,S1_rd,h0,h3,hn,hg,hmd,hrd,e1,S2_n,S2_gl,S2_md,S2_rd,nRv,nvR,b1,S3_n,S3_gl,S3_md,S3_rd,v_S3]
      refine LoopT.round (fun E S=>∃ (f2:Nat) (i2:Nat) (done2:List Arg) (rest2:List Arg) (Y:SV),(pArgs ws f2 i2=some (rest2,q'))∧(done2++rest2=l)∧(S.B R=some (rdC ws i2 false))∧(AccZ S (v+1) S.nx 10 done2.length (rowsZ Arg.sz done2) Y)∧(∀ y,y<N→y≠R→S.B y=Sr.B y)∧(∀ y,y<N→S.T y=Sr.T y)∧(v+1≤S.nx)∧(S.B v=some [.d (dS (wd ws i)),Y, .d (dS ⟨#[]⟩), .fl [] 0, .d (dB false)])∧E 0=some (.op R 0)∧E 3=some (X)∧E 4=some (.op v 0)) (rdMu R ws.length) ⟨ws.length,i+1+1,[],l, .fl [] 0,by simp[S1_n,S1_gl,S1_md,S1_rd,h0,h3,hn,hg,hmd,hrd,e1,S2_n,S2_gl,S2_md,S2_rd,nRv,nvR,b1,S3_n,S3_gl,S3_md,S3_rd,v_S3];exact⟨b3,AccZ.nil,S3_o,S3_t,by omega⟩⟩ ?_
      rintro E S hk ⟨f2,i2,done2,rest2,Y,hp2,hL2,hrd2,hA2,hrO2,hrT2,hnx2,hBv,h0,h3,h4⟩
      have hn:S.n=81:=by first | (simpa using hk.n)|(have hh:=hk.n;simp[S1_n,S1_gl,S1_md,S1_rd,h0,h3,hn,hg,hmd,hrd,e1,S2_n,S2_gl,S2_md,S2_rd,nRv,nvR,b1,S3_n,S3_gl,S3_md,S3_rd,v_S3] at hh;exact hh)
      have hg:S.gl=S0.gl:=by first | (simpa using hk.gl)|(have hh:=hk.gl;simp[S1_n,S1_gl,S1_md,S1_rd,h0,h3,hn,hg,hmd,hrd,e1,S2_n,S2_gl,S2_md,S2_rd,nRv,nvR,b1,S3_n,S3_gl,S3_md,S3_rd,v_S3] at hh;exact hh)
      have hmd:S.md=[1000057,1000076]:=by first | (simpa using hk.md)|(have hh:=hk.md;simp[S1_n,S1_gl,S1_md,S1_rd,h0,h3,hn,hg,hmd,hrd,e1,S2_n,S2_gl,S2_md,S2_rd,nRv,nvR,b1,S3_n,S3_gl,S3_md,S3_rd,v_S3] at hh;exact hh)
      simp[S1_n,S1_gl,S1_md,S1_rd,h0,h3,hn,hg,hmd,hrd,e1,S2_n,S2_gl,S2_md,S2_rd,nRv,nvR,b1,S3_n,S3_gl,S3_md,S3_rd,v_S3,h0,h3,h4,hn,hg,hmd]
      obtain⟨f2,rfl⟩:∃ g,f2=g+1:=by
        cases f2 with
        | zero=>cases hp2
        | succ g=>exact⟨g,rfl⟩
      have hle3:=pArgs_le hp2
      have hyo:=hA2.one
      obtain⟨y1,y2,y3⟩:=hyo
      refine CallT.l (l_peek (ws:=ws) (i:=i2) (bad:=false) (by simp[S1_n,S1_gl,S1_md,S1_rd,h0,h3,hn,hg,hmd,hrd,e1,S2_n,S2_gl,S2_md,S2_rd,nRv,nvR,b1,S3_n,S3_gl,S3_md,S3_rd,v_S3,h0,h3,h4,hn,hg,hmd,hrd2,hBv,y1,y2,y3]) hl (by omega)) rfl ?_
      rcases pArgs_some hp2 with ⟨e2,rfl,rfl⟩ | ⟨e2,a,i3,r2,c1,c2,rfl⟩
      case' inr =>
        obtain⟨c3,c4,t2,j2,c5,c6⟩:=pArg_some c1
        have hc1:=pArg_le c1
        have hdl:done2.length+1≤ws.length:=by
          have:=pArgs_len b3
          rw[← hL2] at this
          simp at this
          omega
        have hc3:=nameB_lt c3
        have hc5:=pTyp_le c5
        obtain⟨Sr2,hSr2⟩:∃ Sr2,S=Sr2:=⟨_,rfl⟩
        obtain⟨N2,hN2⟩:∃ N2,S.nx=N2:=⟨_,rfl⟩
        have hr3:∀ y,y<N2→y≠R→S.B y=Sr2.B y:=fun y _ _=>by rw[hSr2]
        have ht3:∀ y,y<N2→S.T y=Sr2.T y:=fun y _=>by rw[hSr2]
        simp[S1_n,S1_gl,S1_md,S1_rd,h0,h3,hn,hg,hmd,hrd,e1,S2_n,S2_gl,S2_md,S2_rd,nRv,nvR,b1,S3_n,S3_gl,S3_md,S3_rd,v_S3,h0,h3,h4,hn,hg,hmd,hrd2,hBv,y1,y2,y3,e2]
        refine CallT.x (l_name _ R ws i2 false (by simp;omega) (by simp[S1_n,S1_gl,S1_md,S1_rd,h0,h3,hn,hg,hmd,hrd,e1,S2_n,S2_gl,S2_md,S2_rd,nRv,nvR,b1,S3_n,S3_gl,S3_md,S3_rd,v_S3,h0,h3,h4,hn,hg,hmd,hrd2,hBv,y1,y2,y3,e2]) hl (by omega) c3 (by have:=nameB_size c3;omega)) rfl (fun r4 S4 h4=>?_)
        obtain⟨q4,hG4⟩:=h4
        subst q4
        have S4_n:=hG4.n
        try simp[S1_n,S1_gl,S1_md,S1_rd,h0,h3,hn,hg,hmd,hrd,e1,S2_n,S2_gl,S2_md,S2_rd,nRv,nvR,b1,S3_n,S3_gl,S3_md,S3_rd,v_S3,h0,h3,h4,hn,hg,hmd,hrd2,hBv,y1,y2,y3,e2] at S4_n
        have S4_gl:=hG4.gl
        try simp[S1_n,S1_gl,S1_md,S1_rd,h0,h3,hn,hg,hmd,hrd,e1,S2_n,S2_gl,S2_md,S2_rd,nRv,nvR,b1,S3_n,S3_gl,S3_md,S3_rd,v_S3,h0,h3,h4,hn,hg,hmd,hrd2,hBv,y1,y2,y3,e2,S4_n] at S4_gl
        have S4_md:=hG4.md
        try simp[S1_n,S1_gl,S1_md,S1_rd,h0,h3,hn,hg,hmd,hrd,e1,S2_n,S2_gl,S2_md,S2_rd,nRv,nvR,b1,S3_n,S3_gl,S3_md,S3_rd,v_S3,h0,h3,h4,hn,hg,hmd,hrd2,hBv,y1,y2,y3,e2,S4_n,S4_gl] at S4_md
        have S4_nx:=hG4.nx
        try simp[S1_n,S1_gl,S1_md,S1_rd,h0,h3,hn,hg,hmd,hrd,e1,S2_n,S2_gl,S2_md,S2_rd,nRv,nvR,b1,S3_n,S3_gl,S3_md,S3_rd,v_S3,h0,h3,h4,hn,hg,hmd,hrd2,hBv,y1,y2,y3,e2,S4_n,S4_gl,S4_md] at S4_nx
        have S4_rd:=hG4.rd
        have v_S4:=hG4.old v (by first | omega | (simp;omega)) (by omega)
        try simp[S1_n,S1_gl,S1_md,S1_rd,h0,h3,hn,hg,hmd,hrd,e1,S2_n,S2_gl,S2_md,S2_rd,nRv,nvR,b1,S3_n,S3_gl,S3_md,S3_rd,v_S3,h0,h3,h4,hn,hg,hmd,hrd2,hBv,y1,y2,y3,e2,S4_n,S4_gl,S4_md,S4_rd] at v_S4
        have S4_o:∀ y,y<N2→y≠R→S4.B y=Sr2.B y:=fun y k1 k2=>by
          have a1:=hG4.old y (by first | omega | (simp;omega)) k2
          try simp[] at a1
          exact a1.trans (hr3 y k1 k2)
        have S4_t:∀ y,y<N2→S4.T y=Sr2.T y:=fun y k1=>by
          have a1:=hG4.T y (by first | omega | (simp;omega))
          try simp at a1
          exact a1.trans (ht3 y k1)
        simp[S1_n,S1_gl,S1_md,S1_rd,h0,h3,hn,hg,hmd,hrd,e1,S2_n,S2_gl,S2_md,S2_rd,nRv,nvR,b1,S3_n,S3_gl,S3_md,S3_rd,v_S3,h0,h3,h4,hn,hg,hmd,hrd2,hBv,y1,y2,y3,e2,S4_n,S4_gl,S4_md,S4_rd,v_S4]
        obtain⟨w,hw⟩:∃ w,S.nx+10+3=w:=⟨_,rfl⟩
        have nRw:¬ R=w:=by omega
        have nwR:¬ w=R:=by omega
        have nvw:¬ v=w:=by omega
        have nwv:¬ w=v:=by omega
        rw[hw]
        refine CallT.x (l_must _ R ws (i2+1) false ⟨#[58]⟩ (by simp;omega) (by simp[S1_n,S1_gl,S1_md,S1_rd,h0,h3,hn,hg,hmd,hrd,e1,S2_n,S2_gl,S2_md,S2_rd,nRv,nvR,b1,S3_n,S3_gl,S3_md,S3_rd,v_S3,h0,h3,h4,hn,hg,hmd,hrd2,hBv,y1,y2,y3,e2,S4_n,S4_gl,S4_md,S4_rd,v_S4,nRw,nwR,nvw,nwv]) hl (by omega) c4) rfl (fun r5 S5 hG5=>?_)
        have S5_n:=hG5.n
        try simp[S1_n,S1_gl,S1_md,S1_rd,h0,h3,hn,hg,hmd,hrd,e1,S2_n,S2_gl,S2_md,S2_rd,nRv,nvR,b1,S3_n,S3_gl,S3_md,S3_rd,v_S3,h0,h3,h4,hn,hg,hmd,hrd2,hBv,y1,y2,y3,e2,S4_n,S4_gl,S4_md,S4_rd,v_S4,nRw,nwR,nvw,nwv] at S5_n
        have S5_gl:=hG5.gl
        try simp[S1_n,S1_gl,S1_md,S1_rd,h0,h3,hn,hg,hmd,hrd,e1,S2_n,S2_gl,S2_md,S2_rd,nRv,nvR,b1,S3_n,S3_gl,S3_md,S3_rd,v_S3,h0,h3,h4,hn,hg,hmd,hrd2,hBv,y1,y2,y3,e2,S4_n,S4_gl,S4_md,S4_rd,v_S4,nRw,nwR,nvw,nwv,S5_n] at S5_gl
        have S5_md:=hG5.md
        try simp[S1_n,S1_gl,S1_md,S1_rd,h0,h3,hn,hg,hmd,hrd,e1,S2_n,S2_gl,S2_md,S2_rd,nRv,nvR,b1,S3_n,S3_gl,S3_md,S3_rd,v_S3,h0,h3,h4,hn,hg,hmd,hrd2,hBv,y1,y2,y3,e2,S4_n,S4_gl,S4_md,S4_rd,v_S4,nRw,nwR,nvw,nwv,S5_n,S5_gl] at S5_md
        have S5_nx:=hG5.nx
        try simp[S1_n,S1_gl,S1_md,S1_rd,h0,h3,hn,hg,hmd,hrd,e1,S2_n,S2_gl,S2_md,S2_rd,nRv,nvR,b1,S3_n,S3_gl,S3_md,S3_rd,v_S3,h0,h3,h4,hn,hg,hmd,hrd2,hBv,y1,y2,y3,e2,S4_n,S4_gl,S4_md,S4_rd,v_S4,nRw,nwR,nvw,nwv,S5_n,S5_gl,S5_md] at S5_nx
        have S5_rd:=hG5.rd
        have v_S5:=hG5.old v (by first | omega | (simp;omega)) (by omega)
        try simp[S1_n,S1_gl,S1_md,S1_rd,h0,h3,hn,hg,hmd,hrd,e1,S2_n,S2_gl,S2_md,S2_rd,nRv,nvR,b1,S3_n,S3_gl,S3_md,S3_rd,v_S3,h0,h3,h4,hn,hg,hmd,hrd2,hBv,y1,y2,y3,e2,S4_n,S4_gl,S4_md,S4_rd,v_S4,nRw,nwR,nvw,nwv,S5_n,S5_gl,S5_md,S5_rd] at v_S5
        have w_S5:=hG5.old w (by first | omega | (simp;omega)) (by omega)
        try simp[S1_n,S1_gl,S1_md,S1_rd,h0,h3,hn,hg,hmd,hrd,e1,S2_n,S2_gl,S2_md,S2_rd,nRv,nvR,b1,S3_n,S3_gl,S3_md,S3_rd,v_S3,h0,h3,h4,hn,hg,hmd,hrd2,hBv,y1,y2,y3,e2,S4_n,S4_gl,S4_md,S4_rd,v_S4,nRw,nwR,nvw,nwv,S5_n,S5_gl,S5_md,S5_rd,v_S5] at w_S5
        have S5_o:∀ y,y<N2→y≠R→S5.B y=Sr2.B y:=fun y k1 k2=>by
          have a1:=hG5.old y (by first | omega | (simp;omega)) k2
          have y1:¬ y=w:=by omega
          try simp[y1] at a1
          exact a1.trans (S4_o y k1 k2)
        have S5_t:∀ y,y<N2→S5.T y=Sr2.T y:=fun y k1=>by
          have a1:=hG5.T y (by first | omega | (simp;omega))
          try simp at a1
          exact a1.trans (S4_t y k1)
        simp[S1_n,S1_gl,S1_md,S1_rd,h0,h3,hn,hg,hmd,hrd,e1,S2_n,S2_gl,S2_md,S2_rd,nRv,nvR,b1,S3_n,S3_gl,S3_md,S3_rd,v_S3,h0,h3,h4,hn,hg,hmd,hrd2,hBv,y1,y2,y3,e2,S4_n,S4_gl,S4_md,S4_rd,v_S4,nRw,nwR,nvw,nwv,S5_n,S5_gl,S5_md,S5_rd,v_S5,w_S5]
        refine CallT.x (l_typ ws hl 3 _ R (i2+2) t2 j2 c5 (by simp;omega) (by simp[S1_n,S1_gl,S1_md,S1_rd,h0,h3,hn,hg,hmd,hrd,e1,S2_n,S2_gl,S2_md,S2_rd,nRv,nvR,b1,S3_n,S3_gl,S3_md,S3_rd,v_S3,h0,h3,h4,hn,hg,hmd,hrd2,hBv,y1,y2,y3,e2,S4_n,S4_gl,S4_md,S4_rd,v_S4,nRw,nwR,nvw,nwv,S5_n,S5_gl,S5_md,S5_rd,v_S5,w_S5]) (by omega)) rfl (fun r6 S6 h6=>?_)
        obtain⟨T6,q6,hT6,hG6⟩:=h6
        subst q6
        have S6_n:=hG6.n
        try simp[S1_n,S1_gl,S1_md,S1_rd,h0,h3,hn,hg,hmd,hrd,e1,S2_n,S2_gl,S2_md,S2_rd,nRv,nvR,b1,S3_n,S3_gl,S3_md,S3_rd,v_S3,h0,h3,h4,hn,hg,hmd,hrd2,hBv,y1,y2,y3,e2,S4_n,S4_gl,S4_md,S4_rd,v_S4,nRw,nwR,nvw,nwv,S5_n,S5_gl,S5_md,S5_rd,v_S5,w_S5] at S6_n
        have S6_gl:=hG6.gl
        try simp[S1_n,S1_gl,S1_md,S1_rd,h0,h3,hn,hg,hmd,hrd,e1,S2_n,S2_gl,S2_md,S2_rd,nRv,nvR,b1,S3_n,S3_gl,S3_md,S3_rd,v_S3,h0,h3,h4,hn,hg,hmd,hrd2,hBv,y1,y2,y3,e2,S4_n,S4_gl,S4_md,S4_rd,v_S4,nRw,nwR,nvw,nwv,S5_n,S5_gl,S5_md,S5_rd,v_S5,w_S5,S6_n] at S6_gl
        have S6_md:=hG6.md
        try simp[S1_n,S1_gl,S1_md,S1_rd,h0,h3,hn,hg,hmd,hrd,e1,S2_n,S2_gl,S2_md,S2_rd,nRv,nvR,b1,S3_n,S3_gl,S3_md,S3_rd,v_S3,h0,h3,h4,hn,hg,hmd,hrd2,hBv,y1,y2,y3,e2,S4_n,S4_gl,S4_md,S4_rd,v_S4,nRw,nwR,nvw,nwv,S5_n,S5_gl,S5_md,S5_rd,v_S5,w_S5,S6_n,S6_gl] at S6_md
        have S6_nx:=hG6.nx
        try simp[S1_n,S1_gl,S1_md,S1_rd,h0,h3,hn,hg,hmd,hrd,e1,S2_n,S2_gl,S2_md,S2_rd,nRv,nvR,b1,S3_n,S3_gl,S3_md,S3_rd,v_S3,h0,h3,h4,hn,hg,hmd,hrd2,hBv,y1,y2,y3,e2,S4_n,S4_gl,S4_md,S4_rd,v_S4,nRw,nwR,nvw,nwv,S5_n,S5_gl,S5_md,S5_rd,v_S5,w_S5,S6_n,S6_gl,S6_md] at S6_nx
        have S6_rd:=hG6.rd
        have v_S6:=hG6.old v (by first | omega | (simp;omega)) (by omega)
        try simp[S1_n,S1_gl,S1_md,S1_rd,h0,h3,hn,hg,hmd,hrd,e1,S2_n,S2_gl,S2_md,S2_rd,nRv,nvR,b1,S3_n,S3_gl,S3_md,S3_rd,v_S3,h0,h3,h4,hn,hg,hmd,hrd2,hBv,y1,y2,y3,e2,S4_n,S4_gl,S4_md,S4_rd,v_S4,nRw,nwR,nvw,nwv,S5_n,S5_gl,S5_md,S5_rd,v_S5,w_S5,S6_n,S6_gl,S6_md,S6_rd] at v_S6
        have w_S6:=hG6.old w (by first | omega | (simp;omega)) (by omega)
        try simp[S1_n,S1_gl,S1_md,S1_rd,h0,h3,hn,hg,hmd,hrd,e1,S2_n,S2_gl,S2_md,S2_rd,nRv,nvR,b1,S3_n,S3_gl,S3_md,S3_rd,v_S3,h0,h3,h4,hn,hg,hmd,hrd2,hBv,y1,y2,y3,e2,S4_n,S4_gl,S4_md,S4_rd,v_S4,nRw,nwR,nvw,nwv,S5_n,S5_gl,S5_md,S5_rd,v_S5,w_S5,S6_n,S6_gl,S6_md,S6_rd,v_S6] at w_S6
        have S6_o:∀ y,y<N2→y≠R→S6.B y=Sr2.B y:=fun y k1 k2=>by
          have a1:=hG6.old y (by first | omega | (simp;omega)) k2
          have y1:¬ y=w:=by omega
          try simp[y1] at a1
          exact a1.trans (S5_o y k1 k2)
        have S6_t:∀ y,y<N2→S6.T y=Sr2.T y:=fun y k1=>by
          have a1:=hG6.T y (by first | omega | (simp;omega))
          try simp at a1
          exact a1.trans (S5_t y k1)
        obtain⟨ta,tb,tc,rfl⟩:=three_of (by rw[← shs_len,hT6];simp:T6.length=3)
        simp[S1_n,S1_gl,S1_md,S1_rd,h0,h3,hn,hg,hmd,hrd,e1,S2_n,S2_gl,S2_md,S2_rd,nRv,nvR,b1,S3_n,S3_gl,S3_md,S3_rd,v_S3,h0,h3,h4,hn,hg,hmd,hrd2,hBv,y1,y2,y3,e2,S4_n,S4_gl,S4_md,S4_rd,v_S4,nRw,nwR,nvw,nwv,S5_n,S5_gl,S5_md,S5_rd,v_S5,w_S5,S6_n,S6_gl,S6_md,S6_rd,v_S6,w_S6]
        refine CallT.l (l_peek (ws:=ws) (i:=j2) (bad:=false) (by simp[S1_n,S1_gl,S1_md,S1_rd,h0,h3,hn,hg,hmd,hrd,e1,S2_n,S2_gl,S2_md,S2_rd,nRv,nvR,b1,S3_n,S3_gl,S3_md,S3_rd,v_S3,h0,h3,h4,hn,hg,hmd,hrd2,hBv,y1,y2,y3,e2,S4_n,S4_gl,S4_md,S4_rd,v_S4,nRw,nwR,nvw,nwv,S5_n,S5_gl,S5_md,S5_rd,v_S5,w_S5,S6_n,S6_gl,S6_md,S6_rd,v_S6,w_S6]) hl (by omega)) rfl ?_
        rcases c6 with ⟨d1,d2,rfl,rfl⟩ | ⟨d1,rfl,rfl⟩
        case' inl =>
          have d1':=d1
          have hd2:=nameB_lt (wordVB_name d2)
          simp[S1_n,S1_gl,S1_md,S1_rd,h0,h3,hn,hg,hmd,hrd,e1,S2_n,S2_gl,S2_md,S2_rd,nRv,nvR,b1,S3_n,S3_gl,S3_md,S3_rd,v_S3,h0,h3,h4,hn,hg,hmd,hrd2,hBv,y1,y2,y3,e2,S4_n,S4_gl,S4_md,S4_rd,v_S4,nRw,nwR,nvw,nwv,S5_n,S5_gl,S5_md,S5_rd,v_S5,w_S5,S6_n,S6_gl,S6_md,S6_rd,v_S6,w_S6,d1]
          refine CallT.x (l_next _ R ws j2 false (by simp;omega) (by simp[S1_n,S1_gl,S1_md,S1_rd,h0,h3,hn,hg,hmd,hrd,e1,S2_n,S2_gl,S2_md,S2_rd,nRv,nvR,b1,S3_n,S3_gl,S3_md,S3_rd,v_S3,h0,h3,h4,hn,hg,hmd,hrd2,hBv,y1,y2,y3,e2,S4_n,S4_gl,S4_md,S4_rd,v_S4,nRw,nwR,nvw,nwv,S5_n,S5_gl,S5_md,S5_rd,v_S5,w_S5,S6_n,S6_gl,S6_md,S6_rd,v_S6,w_S6,d1]) hl (by omega)) rfl (fun r7 S7 h7=>?_)
          obtain⟨q7,hG7⟩:=h7
          subst q7
          have S7_n:=hG7.n
          try simp[S1_n,S1_gl,S1_md,S1_rd,h0,h3,hn,hg,hmd,hrd,e1,S2_n,S2_gl,S2_md,S2_rd,nRv,nvR,b1,S3_n,S3_gl,S3_md,S3_rd,v_S3,h0,h3,h4,hn,hg,hmd,hrd2,hBv,y1,y2,y3,e2,S4_n,S4_gl,S4_md,S4_rd,v_S4,nRw,nwR,nvw,nwv,S5_n,S5_gl,S5_md,S5_rd,v_S5,w_S5,S6_n,S6_gl,S6_md,S6_rd,v_S6,w_S6,d1] at S7_n
          have S7_gl:=hG7.gl
          try simp[S1_n,S1_gl,S1_md,S1_rd,h0,h3,hn,hg,hmd,hrd,e1,S2_n,S2_gl,S2_md,S2_rd,nRv,nvR,b1,S3_n,S3_gl,S3_md,S3_rd,v_S3,h0,h3,h4,hn,hg,hmd,hrd2,hBv,y1,y2,y3,e2,S4_n,S4_gl,S4_md,S4_rd,v_S4,nRw,nwR,nvw,nwv,S5_n,S5_gl,S5_md,S5_rd,v_S5,w_S5,S6_n,S6_gl,S6_md,S6_rd,v_S6,w_S6,d1,S7_n] at S7_gl
          have S7_md:=hG7.md
          try simp[S1_n,S1_gl,S1_md,S1_rd,h0,h3,hn,hg,hmd,hrd,e1,S2_n,S2_gl,S2_md,S2_rd,nRv,nvR,b1,S3_n,S3_gl,S3_md,S3_rd,v_S3,h0,h3,h4,hn,hg,hmd,hrd2,hBv,y1,y2,y3,e2,S4_n,S4_gl,S4_md,S4_rd,v_S4,nRw,nwR,nvw,nwv,S5_n,S5_gl,S5_md,S5_rd,v_S5,w_S5,S6_n,S6_gl,S6_md,S6_rd,v_S6,w_S6,d1,S7_n,S7_gl] at S7_md
          have S7_nx:=hG7.nx
          try simp[S1_n,S1_gl,S1_md,S1_rd,h0,h3,hn,hg,hmd,hrd,e1,S2_n,S2_gl,S2_md,S2_rd,nRv,nvR,b1,S3_n,S3_gl,S3_md,S3_rd,v_S3,h0,h3,h4,hn,hg,hmd,hrd2,hBv,y1,y2,y3,e2,S4_n,S4_gl,S4_md,S4_rd,v_S4,nRw,nwR,nvw,nwv,S5_n,S5_gl,S5_md,S5_rd,v_S5,w_S5,S6_n,S6_gl,S6_md,S6_rd,v_S6,w_S6,d1,S7_n,S7_gl,S7_md] at S7_nx
          have S7_rd:=hG7.rd
          have v_S7:=hG7.old v (by first | omega | (simp;omega)) (by omega)
          try simp[S1_n,S1_gl,S1_md,S1_rd,h0,h3,hn,hg,hmd,hrd,e1,S2_n,S2_gl,S2_md,S2_rd,nRv,nvR,b1,S3_n,S3_gl,S3_md,S3_rd,v_S3,h0,h3,h4,hn,hg,hmd,hrd2,hBv,y1,y2,y3,e2,S4_n,S4_gl,S4_md,S4_rd,v_S4,nRw,nwR,nvw,nwv,S5_n,S5_gl,S5_md,S5_rd,v_S5,w_S5,S6_n,S6_gl,S6_md,S6_rd,v_S6,w_S6,d1,S7_n,S7_gl,S7_md,S7_rd] at v_S7
          have w_S7:=hG7.old w (by first | omega | (simp;omega)) (by omega)
          try simp[S1_n,S1_gl,S1_md,S1_rd,h0,h3,hn,hg,hmd,hrd,e1,S2_n,S2_gl,S2_md,S2_rd,nRv,nvR,b1,S3_n,S3_gl,S3_md,S3_rd,v_S3,h0,h3,h4,hn,hg,hmd,hrd2,hBv,y1,y2,y3,e2,S4_n,S4_gl,S4_md,S4_rd,v_S4,nRw,nwR,nvw,nwv,S5_n,S5_gl,S5_md,S5_rd,v_S5,w_S5,S6_n,S6_gl,S6_md,S6_rd,v_S6,w_S6,d1,S7_n,S7_gl,S7_md,S7_rd,v_S7] at w_S7
          have S7_o:∀ y,y<N2→y≠R→S7.B y=Sr2.B y:=fun y k1 k2=>by
            have a1:=hG7.old y (by first | omega | (simp;omega)) k2
            have y1:¬ y=w:=by omega
            try simp[y1] at a1
            exact a1.trans (S6_o y k1 k2)
          have S7_t:∀ y,y<N2→S7.T y=Sr2.T y:=fun y k1=>by
            have a1:=hG7.T y (by first | omega | (simp;omega))
            try simp at a1
            exact a1.trans (S6_t y k1)
          simp[S1_n,S1_gl,S1_md,S1_rd,h0,h3,hn,hg,hmd,hrd,e1,S2_n,S2_gl,S2_md,S2_rd,nRv,nvR,b1,S3_n,S3_gl,S3_md,S3_rd,v_S3,h0,h3,h4,hn,hg,hmd,hrd2,hBv,y1,y2,y3,e2,S4_n,S4_gl,S4_md,S4_rd,v_S4,nRw,nwR,nvw,nwv,S5_n,S5_gl,S5_md,S5_rd,v_S5,w_S5,S6_n,S6_gl,S6_md,S6_rd,v_S6,w_S6,d1,S7_n,S7_gl,S7_md,S7_rd,v_S7,w_S7]
          refine CallT.x (l_valueW _ R ws (j2+1) 3 (by simp;omega) (by simp[S1_n,S1_gl,S1_md,S1_rd,h0,h3,hn,hg,hmd,hrd,e1,S2_n,S2_gl,S2_md,S2_rd,nRv,nvR,b1,S3_n,S3_gl,S3_md,S3_rd,v_S3,h0,h3,h4,hn,hg,hmd,hrd2,hBv,y1,y2,y3,e2,S4_n,S4_gl,S4_md,S4_rd,v_S4,nRw,nwR,nvw,nwv,S5_n,S5_gl,S5_md,S5_rd,v_S5,w_S5,S6_n,S6_gl,S6_md,S6_rd,v_S6,w_S6,d1,S7_n,S7_gl,S7_md,S7_rd,v_S7,w_S7]) hl (by omega) (by omega) (by omega) d2) rfl (fun r8 S8 h8=>?_)
          obtain⟨V8,q8,hV8,hG8⟩:=h8
          subst q8
          have S8_n:=hG8.n
          try simp[S1_n,S1_gl,S1_md,S1_rd,h0,h3,hn,hg,hmd,hrd,e1,S2_n,S2_gl,S2_md,S2_rd,nRv,nvR,b1,S3_n,S3_gl,S3_md,S3_rd,v_S3,h0,h3,h4,hn,hg,hmd,hrd2,hBv,y1,y2,y3,e2,S4_n,S4_gl,S4_md,S4_rd,v_S4,nRw,nwR,nvw,nwv,S5_n,S5_gl,S5_md,S5_rd,v_S5,w_S5,S6_n,S6_gl,S6_md,S6_rd,v_S6,w_S6,d1,S7_n,S7_gl,S7_md,S7_rd,v_S7,w_S7] at S8_n
          have S8_gl:=hG8.gl
          try simp[S1_n,S1_gl,S1_md,S1_rd,h0,h3,hn,hg,hmd,hrd,e1,S2_n,S2_gl,S2_md,S2_rd,nRv,nvR,b1,S3_n,S3_gl,S3_md,S3_rd,v_S3,h0,h3,h4,hn,hg,hmd,hrd2,hBv,y1,y2,y3,e2,S4_n,S4_gl,S4_md,S4_rd,v_S4,nRw,nwR,nvw,nwv,S5_n,S5_gl,S5_md,S5_rd,v_S5,w_S5,S6_n,S6_gl,S6_md,S6_rd,v_S6,w_S6,d1,S7_n,S7_gl,S7_md,S7_rd,v_S7,w_S7,S8_n] at S8_gl
          have S8_md:=hG8.md
          try simp[S1_n,S1_gl,S1_md,S1_rd,h0,h3,hn,hg,hmd,hrd,e1,S2_n,S2_gl,S2_md,S2_rd,nRv,nvR,b1,S3_n,S3_gl,S3_md,S3_rd,v_S3,h0,h3,h4,hn,hg,hmd,hrd2,hBv,y1,y2,y3,e2,S4_n,S4_gl,S4_md,S4_rd,v_S4,nRw,nwR,nvw,nwv,S5_n,S5_gl,S5_md,S5_rd,v_S5,w_S5,S6_n,S6_gl,S6_md,S6_rd,v_S6,w_S6,d1,S7_n,S7_gl,S7_md,S7_rd,v_S7,w_S7,S8_n,S8_gl] at S8_md
          have S8_nx:=hG8.nx
          try simp[S1_n,S1_gl,S1_md,S1_rd,h0,h3,hn,hg,hmd,hrd,e1,S2_n,S2_gl,S2_md,S2_rd,nRv,nvR,b1,S3_n,S3_gl,S3_md,S3_rd,v_S3,h0,h3,h4,hn,hg,hmd,hrd2,hBv,y1,y2,y3,e2,S4_n,S4_gl,S4_md,S4_rd,v_S4,nRw,nwR,nvw,nwv,S5_n,S5_gl,S5_md,S5_rd,v_S5,w_S5,S6_n,S6_gl,S6_md,S6_rd,v_S6,w_S6,d1,S7_n,S7_gl,S7_md,S7_rd,v_S7,w_S7,S8_n,S8_gl,S8_md] at S8_nx
          have S8_rd:=hG8.rd
          have v_S8:=hG8.old v (by first | omega | (simp;omega)) (by omega)
          try simp[S1_n,S1_gl,S1_md,S1_rd,h0,h3,hn,hg,hmd,hrd,e1,S2_n,S2_gl,S2_md,S2_rd,nRv,nvR,b1,S3_n,S3_gl,S3_md,S3_rd,v_S3,h0,h3,h4,hn,hg,hmd,hrd2,hBv,y1,y2,y3,e2,S4_n,S4_gl,S4_md,S4_rd,v_S4,nRw,nwR,nvw,nwv,S5_n,S5_gl,S5_md,S5_rd,v_S5,w_S5,S6_n,S6_gl,S6_md,S6_rd,v_S6,w_S6,d1,S7_n,S7_gl,S7_md,S7_rd,v_S7,w_S7,S8_n,S8_gl,S8_md,S8_rd] at v_S8
          have w_S8:=hG8.old w (by first | omega | (simp;omega)) (by omega)
          try simp[S1_n,S1_gl,S1_md,S1_rd,h0,h3,hn,hg,hmd,hrd,e1,S2_n,S2_gl,S2_md,S2_rd,nRv,nvR,b1,S3_n,S3_gl,S3_md,S3_rd,v_S3,h0,h3,h4,hn,hg,hmd,hrd2,hBv,y1,y2,y3,e2,S4_n,S4_gl,S4_md,S4_rd,v_S4,nRw,nwR,nvw,nwv,S5_n,S5_gl,S5_md,S5_rd,v_S5,w_S5,S6_n,S6_gl,S6_md,S6_rd,v_S6,w_S6,d1,S7_n,S7_gl,S7_md,S7_rd,v_S7,w_S7,S8_n,S8_gl,S8_md,S8_rd,v_S8] at w_S8
          have S8_o:∀ y,y<N2→y≠R→S8.B y=Sr2.B y:=fun y k1 k2=>by
            have a1:=hG8.old y (by first | omega | (simp;omega)) k2
            have y1:¬ y=w:=by omega
            try simp[y1] at a1
            exact a1.trans (S7_o y k1 k2)
          have S8_t:∀ y,y<N2→S8.T y=Sr2.T y:=fun y k1=>by
            have a1:=hG8.T y (by first | omega | (simp;omega))
            try simp at a1
            exact a1.trans (S7_t y k1)
          obtain⟨va,vb,vc,vd,ve,rfl⟩:=five_of (by rw[← shs_len,hV8];simp:V8.length=5)
          simp[S1_n,S1_gl,S1_md,S1_rd,h0,h3,hn,hg,hmd,hrd,e1,S2_n,S2_gl,S2_md,S2_rd,nRv,nvR,b1,S3_n,S3_gl,S3_md,S3_rd,v_S3,h0,h3,h4,hn,hg,hmd,hrd2,hBv,y1,y2,y3,e2,S4_n,S4_gl,S4_md,S4_rd,v_S4,nRw,nwR,nvw,nwv,S5_n,S5_gl,S5_md,S5_rd,v_S5,w_S5,S6_n,S6_gl,S6_md,S6_rd,v_S6,w_S6,d1,S7_n,S7_gl,S7_md,S7_rd,v_S7,w_S7,S8_n,S8_gl,S8_md,S8_rd,v_S8,w_S8]
          refine OpT_addZ2 (e:=181) (by_:=152) (lo2:=N2) (hi2:=S8.nx) [.d (.string (wd ws i2)),ta,tb,tc, .d (.bool true),va,vb,vc,vd,ve] (by kernel_rfl) hA2 (rowsZ_len (fun x=>by simp) _) (by unfold appBound;omega) rfl rfl (by omega) (by omega) (by omega) (by omega) ?_ ?_ ?_
          · intro b k1 k2
            have z1:¬ b=w:=by omega
            simp[z1]
            exact (S8_o b (by omega) (by omega)).trans (by rw[hSr2])
          · refine .cons_d (.app (a:=[ta,tb,tc]) (mid:=S6.nx) ((hG6.new.keep fun b k1 k2=>?_).le ?_ (Nat.le_refl _)) (.cons_d ((hG8.new.keep fun b k1 k2=>?_).le ?_ (Nat.le_refl _))) (by omega) (by omega))
            · simp at k1
              have z1:¬ b=w:=by omega
              have o8:=hG8.old b (by simp;omega) (by omega)
              have o7:=hG7.old b (by simp;omega) (by omega)
              simp[z1] at o8 o7 ⊢
              exact o8.trans o7
            · simp;omega
            · simp at k1
              have z1:¬ b=w:=by omega
              simp[z1]
            · simp;omega
          · intro X9 S9 E9 hE9 hA9 hB9 hs9
            rw[hE9]
            have S9_n:=hs9.n
            have S9_gl:=hs9.gl
            have S9_md:=hs9.md
            have S9_nx:=hs9.nx
            have S9_v:=hB9 v (.inl (by omega)) (by omega)
            have S9_R:=hB9 R (.inl (by omega)) (by omega)
            simp[S1_n,S1_gl,S1_md,S1_rd,h0,h3,hn,hg,hmd,hrd,e1,S2_n,S2_gl,S2_md,S2_rd,nRv,nvR,b1,S3_n,S3_gl,S3_md,S3_rd,v_S3,h0,h3,h4,hn,hg,hmd,hrd2,hBv,y1,y2,y3,e2,S4_n,S4_gl,S4_md,S4_rd,v_S4,nRw,nwR,nvw,nwv,S5_n,S5_gl,S5_md,S5_rd,v_S5,w_S5,S6_n,S6_gl,S6_md,S6_rd,v_S6,w_S6,d1,S7_n,S7_gl,S7_md,S7_rd,v_S7,w_S7,S8_n,S8_gl,S8_md,S8_rd,v_S8,w_S8] at S9_n S9_gl S9_md S9_nx S9_v S9_R
            obtain⟨z1,z2,z3⟩:=hA9.one
            simp[S1_n,S1_gl,S1_md,S1_rd,h0,h3,hn,hg,hmd,hrd,e1,S2_n,S2_gl,S2_md,S2_rd,nRv,nvR,b1,S3_n,S3_gl,S3_md,S3_rd,v_S3,h0,h3,h4,hn,hg,hmd,hrd2,hBv,y1,y2,y3,e2,S4_n,S4_gl,S4_md,S4_rd,v_S4,nRw,nwR,nvw,nwv,S5_n,S5_gl,S5_md,S5_rd,v_S5,w_S5,S6_n,S6_gl,S6_md,S6_rd,v_S6,w_S6,d1,S7_n,S7_gl,S7_md,S7_rd,v_S7,w_S7,S8_n,S8_gl,S8_md,S8_rd,v_S8,w_S8,S9_n,S9_gl,S9_md,S9_v,S9_R,z1,z2,z3]
            refine⟨⟨f2,j2+2,done2++[⟨wd ws i2,t2,true, .mk 7 0 (wd ws (j2+1)) [] []⟩],r2,c2,by simpa using hL2,by omega,X9,?_,?_,?_,by omega,rfl⟩,rdMu_lt hrd2 (j:=j2+2) (b':=false) (by simp[S1_n,S1_gl,S1_md,S1_rd,h0,h3,hn,hg,hmd,hrd,e1,S2_n,S2_gl,S2_md,S2_rd,nRv,nvR,b1,S3_n,S3_gl,S3_md,S3_rd,v_S3,h0,h3,h4,hn,hg,hmd,hrd2,hBv,y1,y2,y3,e2,S4_n,S4_gl,S4_md,S4_rd,v_S4,nRw,nwR,nvw,nwv,S5_n,S5_gl,S5_md,S5_rd,v_S5,w_S5,S6_n,S6_gl,S6_md,S6_rd,v_S6,w_S6,d1,S7_n,S7_gl,S7_md,S7_rd,v_S7,w_S7,S8_n,S8_gl,S8_md,S8_rd,v_S8,w_S8,S9_n,S9_gl,S9_md,S9_v,S9_R,z1,z2,z3];try omega) (by omega) (by omega)⟩
            · have e9:shs [.d (.string (wd ws i2)),ta,tb,tc, .d (.bool true),va,vb,vc,vd,ve]=Arg.sz ⟨wd ws i2,t2,true, .mk 7 0 (wd ws (j2+1)) [] []⟩:=by
                simp[Arg.sz, ← hT6, ← hV8,shs,Ld.sh]
              rw[rows_add, ← e9]
              have h9:=hA9.keep (S':=S9.set v [.d (dS (wd ws i)),X9, .d (dS ⟨#[]⟩), .fl [] 0, .d (dB false)]) (lo':=v+1) (hi':=S9.nx) (fun b k1 k2=>by simp[show ¬ b=v by omega]) (Nat.le_refl _) (by omega)
              simpa using h9
            · intro y k1 k2
              have z1:¬ y=v:=by omega
              have z2:¬ y=w:=by omega
              have a9:=hB9 y (.inl (by omega)) (by omega)
              simp[z2] at a9
              rw[if_neg z1,a9]
              exact ((S8_o y (by omega) k2).trans (by rw[hSr2])).trans (hrO2 y k1 k2)
            · intro y k1
              have a9:=congrFun hs9.T y
              simp at a9
              rw[a9]
              exact ((S8_t y (by omega)).trans (by rw[hSr2])).trans (hrT2 y k1)
        case' inr =>
          have d1':=d1
          simp[S1_n,S1_gl,S1_md,S1_rd,h0,h3,hn,hg,hmd,hrd,e1,S2_n,S2_gl,S2_md,S2_rd,nRv,nvR,b1,S3_n,S3_gl,S3_md,S3_rd,v_S3,h0,h3,h4,hn,hg,hmd,hrd2,hBv,y1,y2,y3,e2,S4_n,S4_gl,S4_md,S4_rd,v_S4,nRw,nwR,nvw,nwv,S5_n,S5_gl,S5_md,S5_rd,v_S5,w_S5,S6_n,S6_gl,S6_md,S6_rd,v_S6,w_S6,d1]
          refine OpT_addZ2 (e:=181) (by_:=152) (lo2:=N2) (hi2:=S6.nx) [.d (.string (wd ws i2)),ta,tb,tc, .d (.bool false), .d (.int .i64 0), .d (.int .i64 0), .d (.string ⟨#[]⟩), .nil, .nil] (by kernel_rfl) hA2 (rowsZ_len (fun x=>by simp) _) (by unfold appBound;omega) rfl rfl (by omega) (by omega) (by omega) (by omega) ?_ ?_ ?_
          · intro b k1 k2
            have z1:¬ b=w:=by omega
            simp[z1]
            exact (S6_o b (by omega) (by omega)).trans (by rw[hSr2])
          · refine .cons_d (.app (a:=[ta,tb,tc]) (mid:=S6.nx) ((hG6.new.keep fun b k1 k2=>?_).le ?_ (Nat.le_refl _)) (.cons_d (.cons_d (.cons_d (.cons_d (.cons_nil (.cons_nil .nil)))))) (by omega) (by omega))
            · simp at k1
              have z1:¬ b=w:=by omega
              simp[z1]
            · simp;omega
          · intro X9 S9 E9 hE9 hA9 hB9 hs9
            rw[hE9]
            have S9_n:=hs9.n
            have S9_gl:=hs9.gl
            have S9_md:=hs9.md
            have S9_nx:=hs9.nx
            have S9_v:=hB9 v (.inl (by omega)) (by omega)
            have S9_R:=hB9 R (.inl (by omega)) (by omega)
            simp[S1_n,S1_gl,S1_md,S1_rd,h0,h3,hn,hg,hmd,hrd,e1,S2_n,S2_gl,S2_md,S2_rd,nRv,nvR,b1,S3_n,S3_gl,S3_md,S3_rd,v_S3,h0,h3,h4,hn,hg,hmd,hrd2,hBv,y1,y2,y3,e2,S4_n,S4_gl,S4_md,S4_rd,v_S4,nRw,nwR,nvw,nwv,S5_n,S5_gl,S5_md,S5_rd,v_S5,w_S5,S6_n,S6_gl,S6_md,S6_rd,v_S6,w_S6,d1] at S9_n S9_gl S9_md S9_nx S9_v S9_R
            obtain⟨z1,z2,z3⟩:=hA9.one
            simp[S1_n,S1_gl,S1_md,S1_rd,h0,h3,hn,hg,hmd,hrd,e1,S2_n,S2_gl,S2_md,S2_rd,nRv,nvR,b1,S3_n,S3_gl,S3_md,S3_rd,v_S3,h0,h3,h4,hn,hg,hmd,hrd2,hBv,y1,y2,y3,e2,S4_n,S4_gl,S4_md,S4_rd,v_S4,nRw,nwR,nvw,nwv,S5_n,S5_gl,S5_md,S5_rd,v_S5,w_S5,S6_n,S6_gl,S6_md,S6_rd,v_S6,w_S6,d1,S9_n,S9_gl,S9_md,S9_v,S9_R,z1,z2,z3]
            refine⟨⟨f2,i3,done2++[⟨wd ws i2,t2,false,noVal⟩],r2,c2,by simpa using hL2,by omega,X9,?_,?_,?_,by omega,rfl⟩,rdMu_lt hrd2 (j:=i3) (b':=false) (by simp[S1_n,S1_gl,S1_md,S1_rd,h0,h3,hn,hg,hmd,hrd,e1,S2_n,S2_gl,S2_md,S2_rd,nRv,nvR,b1,S3_n,S3_gl,S3_md,S3_rd,v_S3,h0,h3,h4,hn,hg,hmd,hrd2,hBv,y1,y2,y3,e2,S4_n,S4_gl,S4_md,S4_rd,v_S4,nRw,nwR,nvw,nwv,S5_n,S5_gl,S5_md,S5_rd,v_S5,w_S5,S6_n,S6_gl,S6_md,S6_rd,v_S6,w_S6,d1,S9_n,S9_gl,S9_md,S9_v,S9_R,z1,z2,z3];try omega) (by omega) (by omega)⟩
            · have e9:shs [.d (.string (wd ws i2)),ta,tb,tc, .d (.bool false), .d (.int .i64 0), .d (.int .i64 0), .d (.string ⟨#[]⟩), .nil, .nil]=Arg.sz ⟨wd ws i2,t2,false,noVal⟩:=by
                simp[Arg.sz, ← hT6,shs,Ld.sh,Val.sz,skT]
              rw[rows_add, ← e9]
              have h9:=hA9.keep (S':=S9.set v [.d (dS (wd ws i)),X9, .d (dS ⟨#[]⟩), .fl [] 0, .d (dB false)]) (lo':=v+1) (hi':=S9.nx) (fun b k1 k2=>by simp[show ¬ b=v by omega]) (Nat.le_refl _) (by omega)
              simpa using h9
            · intro y k1 k2
              have z1:¬ y=v:=by omega
              have z2:¬ y=w:=by omega
              have a9:=hB9 y (.inl (by omega)) (by omega)
              simp[z2] at a9
              rw[if_neg z1,a9]
              exact ((S6_o y (by omega) k2).trans (by rw[hSr2])).trans (hrO2 y k1 k2)
            · intro y k1
              have a9:=congrFun hs9.T y
              simp at a9
              rw[a9]
              exact ((S6_t y (by omega)).trans (by rw[hSr2])).trans (hrT2 y k1)
      have e2':=e2
      simp[S1_n,S1_gl,S1_md,S1_rd,h0,h3,hn,hg,hmd,hrd,e1,S2_n,S2_gl,S2_md,S2_rd,nRv,nvR,b1,S3_n,S3_gl,S3_md,S3_rd,v_S3,h0,h3,h4,hn,hg,hmd,hrd2,hBv,y1,y2,y3,e2]
      refine CallT.x (l_must _ R ws q' false ⟨#[41]⟩ (by simp;omega) (by simp[S1_n,S1_gl,S1_md,S1_rd,h0,h3,hn,hg,hmd,hrd,e1,S2_n,S2_gl,S2_md,S2_rd,nRv,nvR,b1,S3_n,S3_gl,S3_md,S3_rd,v_S3,h0,h3,h4,hn,hg,hmd,hrd2,hBv,y1,y2,y3,e2]) hl (by omega) e2') rfl (fun r4 S4 hG4=>?_)
      have S4_n:=hG4.n
      try simp[S1_n,S1_gl,S1_md,S1_rd,h0,h3,hn,hg,hmd,hrd,e1,S2_n,S2_gl,S2_md,S2_rd,nRv,nvR,b1,S3_n,S3_gl,S3_md,S3_rd,v_S3,h0,h3,h4,hn,hg,hmd,hrd2,hBv,y1,y2,y3,e2] at S4_n
      have S4_gl:=hG4.gl
      try simp[S1_n,S1_gl,S1_md,S1_rd,h0,h3,hn,hg,hmd,hrd,e1,S2_n,S2_gl,S2_md,S2_rd,nRv,nvR,b1,S3_n,S3_gl,S3_md,S3_rd,v_S3,h0,h3,h4,hn,hg,hmd,hrd2,hBv,y1,y2,y3,e2,S4_n] at S4_gl
      have S4_md:=hG4.md
      try simp[S1_n,S1_gl,S1_md,S1_rd,h0,h3,hn,hg,hmd,hrd,e1,S2_n,S2_gl,S2_md,S2_rd,nRv,nvR,b1,S3_n,S3_gl,S3_md,S3_rd,v_S3,h0,h3,h4,hn,hg,hmd,hrd2,hBv,y1,y2,y3,e2,S4_n,S4_gl] at S4_md
      have S4_nx:=hG4.nx
      try simp[S1_n,S1_gl,S1_md,S1_rd,h0,h3,hn,hg,hmd,hrd,e1,S2_n,S2_gl,S2_md,S2_rd,nRv,nvR,b1,S3_n,S3_gl,S3_md,S3_rd,v_S3,h0,h3,h4,hn,hg,hmd,hrd2,hBv,y1,y2,y3,e2,S4_n,S4_gl,S4_md] at S4_nx
      have S4_rd:=hG4.rd
      have v_S4:=hG4.old v (by first | omega | (simp;omega)) (by omega)
      try simp[S1_n,S1_gl,S1_md,S1_rd,h0,h3,hn,hg,hmd,hrd,e1,S2_n,S2_gl,S2_md,S2_rd,nRv,nvR,b1,S3_n,S3_gl,S3_md,S3_rd,v_S3,h0,h3,h4,hn,hg,hmd,hrd2,hBv,y1,y2,y3,e2,S4_n,S4_gl,S4_md,S4_rd] at v_S4
      have S4_o:∀ y,y<N→y≠R→S4.B y=Sr.B y:=fun y k1 k2=>by
        have a1:=hG4.old y (by first | omega | (simp;omega)) k2
        have y1:¬ y=v:=by omega
        try simp[y1] at a1
        exact a1.trans (hrO2 y k1 k2)
      have S4_t:∀ y,y<N→S4.T y=Sr.T y:=fun y k1=>by
        have a1:=hG4.T y (by first | omega | (simp;omega))
        try simp at a1
        exact a1.trans (hrT2 y k1)
      rw[List.append_nil] at hL2
      subst hL2
      have hlen0:¬ done2.length=0:=fun e=>b2 (List.eq_nil_of_length_eq_zero e)
      obtain⟨bY,rfl⟩:=hA2.pos hlen0
      simp[S1_n,S1_gl,S1_md,S1_rd,h0,h3,hn,hg,hmd,hrd,e1,S2_n,S2_gl,S2_md,S2_rd,nRv,nvR,b1,S3_n,S3_gl,S3_md,S3_rd,v_S3,h0,h3,h4,hn,hg,hmd,hrd2,hBv,y1,y2,y3,e2,S4_n,S4_gl,S4_md,S4_rd,v_S4,hlen0]
      refine callt_gen (Q:=fun S=>FldI S0 Sr S R N v ws (q'+1) (wd ws i) (.sk bY done2.length 10) done2) ⟨?_,?_,?_,?_,?_,?_,?_,?_,?_⟩ (fun Z hI=>?_)
      · simp[S1_n,S1_gl,S1_md,S1_rd,h0,h3,hn,hg,hmd,hrd,e1,S2_n,S2_gl,S2_md,S2_rd,nRv,nvR,b1,S3_n,S3_gl,S3_md,S3_rd,v_S3,h0,h3,h4,hn,hg,hmd,hrd2,hBv,y1,y2,y3,e2,S4_n,S4_gl,S4_md,S4_rd,v_S4]
      · simp[S1_n,S1_gl,S1_md,S1_rd,h0,h3,hn,hg,hmd,hrd,e1,S2_n,S2_gl,S2_md,S2_rd,nRv,nvR,b1,S3_n,S3_gl,S3_md,S3_rd,v_S3,h0,h3,h4,hn,hg,hmd,hrd2,hBv,y1,y2,y3,e2,S4_n,S4_gl,S4_md,S4_rd,v_S4]
      · simp[S1_n,S1_gl,S1_md,S1_rd,h0,h3,hn,hg,hmd,hrd,e1,S2_n,S2_gl,S2_md,S2_rd,nRv,nvR,b1,S3_n,S3_gl,S3_md,S3_rd,v_S3,h0,h3,h4,hn,hg,hmd,hrd2,hBv,y1,y2,y3,e2,S4_n,S4_gl,S4_md,S4_rd,v_S4]
      · simp;omega
      · simp[S1_n,S1_gl,S1_md,S1_rd,h0,h3,hn,hg,hmd,hrd,e1,S2_n,S2_gl,S2_md,S2_rd,nRv,nvR,b1,S3_n,S3_gl,S3_md,S3_rd,v_S3,h0,h3,h4,hn,hg,hmd,hrd2,hBv,y1,y2,y3,e2,S4_n,S4_gl,S4_md,S4_rd,v_S4]
      · simp[S1_n,S1_gl,S1_md,S1_rd,h0,h3,hn,hg,hmd,hrd,e1,S2_n,S2_gl,S2_md,S2_rd,nRv,nvR,b1,S3_n,S3_gl,S3_md,S3_rd,v_S3,h0,h3,h4,hn,hg,hmd,hrd2,hBv,y1,y2,y3,e2,S4_n,S4_gl,S4_md,S4_rd,v_S4]
      · refine hA2.keep (fun b k1 k2=>?_) (Nat.le_refl _) (by simp;omega)
        have a4:=hG4.old b (by simp;omega) (by omega)
        simpa using a4
      · intro y k1 k2
        exact S4_o y k1 k2
      · intro y k1
        exact S4_t y k1
      generalize S4.nx=base
      obtain⟨lx,hlx⟩:∃ lx,lx=done2:=⟨_,rfl⟩
      obtain⟨qx,hqx⟩:∃ qx,qx=q'+1:=⟨_,rfl⟩
      obtain⟨Y,hY⟩:∃ Y,Y=SV.sk bY done2.length 10:=⟨_,rfl⟩
      rw[← hY, ← hlx, ← hqx] at hI
      rw[← hlx] at hL
      rw[← hqx] at a3 a4
    case' inr =>
      have b1':=b1
      simp[S1_n,S1_gl,S1_md,S1_rd,h0,h3,hn,hg,hmd,hrd,e1,S2_n,S2_gl,S2_md,S2_rd,nRv,nvR,b1]
      refine callt_gen (Q:=fun S=>FldI S0 Sr S R N v ws (i+1) (wd ws i) (.fl [] 0) []) ⟨?_,?_,?_,?_,?_,?_,?_,?_,?_⟩ (fun Z hI=>?_)
      · simp[S1_n,S1_gl,S1_md,S1_rd,h0,h3,hn,hg,hmd,hrd,e1,S2_n,S2_gl,S2_md,S2_rd,nRv,nvR,b1]
      · simp[S1_n,S1_gl,S1_md,S1_rd,h0,h3,hn,hg,hmd,hrd,e1,S2_n,S2_gl,S2_md,S2_rd,nRv,nvR,b1]
      · simp[S1_n,S1_gl,S1_md,S1_rd,h0,h3,hn,hg,hmd,hrd,e1,S2_n,S2_gl,S2_md,S2_rd,nRv,nvR,b1]
      · simp;omega
      · simp[S1_n,S1_gl,S1_md,S1_rd,h0,h3,hn,hg,hmd,hrd,e1,S2_n,S2_gl,S2_md,S2_rd,nRv,nvR,b1]
      · simp[S1_n,S1_gl,S1_md,S1_rd,h0,h3,hn,hg,hmd,hrd,e1,S2_n,S2_gl,S2_md,S2_rd,nRv,nvR,b1]
      · exact AccZ.nil
      · intro y k1 k2
        have z1:¬ y=v:=by omega
        simp[z1]
        exact S2_o y k1 k2
      · intro y k1
        exact S2_t y k1
      generalize S2.nx=base
      have h4:True:=trivial
      obtain⟨lx,hlx⟩:∃ lx:List Arg,lx=[]:=⟨_,rfl⟩
      obtain⟨qx,hqx⟩:∃ qx,qx=i+1:=⟨_,rfl⟩
      obtain⟨Y,hY⟩:∃ Y,Y=SV.fl [] 0:=⟨_,rfl⟩
      rw[← hY, ← hlx, ← hqx] at hI
      rw[← hlx] at hL
      rw[← hqx] at a3 a4
    all_goals
      obtain⟨I1,I2,I3,I4,I5,I6,I7,I8,I9⟩:=hI
      have ht4:=pTyp_le a4
      obtain⟨y1,y2,y3⟩:=I7.one
      refine CallT.x (l_must _ R ws qx false ⟨#[58]⟩ (by omega) (by simp[S1_n,S1_gl,S1_md,S1_rd,h0,h3,hn,hg,hmd,hrd,e1,S2_n,S2_gl,S2_md,S2_rd,nRv,nvR,I1,I2,I3,I5,I6,y1,y2,y3,h0,h3,h4]) hl (by omega) a3) rfl (fun r5 S5 hG5=>?_)
      have S5_n:=hG5.n
      try simp[S1_n,S1_gl,S1_md,S1_rd,h0,h3,hn,hg,hmd,hrd,e1,S2_n,S2_gl,S2_md,S2_rd,nRv,nvR,I1,I2,I3,I5,I6,y1,y2,y3,h0,h3,h4] at S5_n
      have S5_gl:=hG5.gl
      try simp[S1_n,S1_gl,S1_md,S1_rd,h0,h3,hn,hg,hmd,hrd,e1,S2_n,S2_gl,S2_md,S2_rd,nRv,nvR,I1,I2,I3,I5,I6,y1,y2,y3,h0,h3,h4,S5_n] at S5_gl
      have S5_md:=hG5.md
      try simp[S1_n,S1_gl,S1_md,S1_rd,h0,h3,hn,hg,hmd,hrd,e1,S2_n,S2_gl,S2_md,S2_rd,nRv,nvR,I1,I2,I3,I5,I6,y1,y2,y3,h0,h3,h4,S5_n,S5_gl] at S5_md
      have S5_nx:=hG5.nx
      try simp[S1_n,S1_gl,S1_md,S1_rd,h0,h3,hn,hg,hmd,hrd,e1,S2_n,S2_gl,S2_md,S2_rd,nRv,nvR,I1,I2,I3,I5,I6,y1,y2,y3,h0,h3,h4,S5_n,S5_gl,S5_md] at S5_nx
      have S5_rd:=hG5.rd
      have v_S5:=hG5.old v (by first | omega | (simp;omega)) (by omega)
      try simp[S1_n,S1_gl,S1_md,S1_rd,h0,h3,hn,hg,hmd,hrd,e1,S2_n,S2_gl,S2_md,S2_rd,nRv,nvR,I1,I2,I3,I5,I6,y1,y2,y3,h0,h3,h4,S5_n,S5_gl,S5_md,S5_rd] at v_S5
      have S5_o:∀ y,y<N→y≠R→S5.B y=Sr.B y:=fun y k1 k2=>by
        have a1:=hG5.old y (by first | omega | (simp;omega)) k2
        have y1:¬ y=v:=by omega
        try simp[y1] at a1
        exact a1.trans (I8 y k1 k2)
      have S5_t:∀ y,y<N→S5.T y=Sr.T y:=fun y k1=>by
        have a1:=hG5.T y (by first | omega | (simp;omega))
        try simp at a1
        exact a1.trans (I9 y k1)
      simp[S1_n,S1_gl,S1_md,S1_rd,h0,h3,hn,hg,hmd,hrd,e1,S2_n,S2_gl,S2_md,S2_rd,nRv,nvR,I1,I2,I3,I5,I6,y1,y2,y3,h0,h3,h4,S5_n,S5_gl,S5_md,S5_rd,v_S5]
      refine CallT.x (l_typ ws hl 3 _ R (qx+1) t i' a4 (by simp;omega) (by simp[S1_n,S1_gl,S1_md,S1_rd,h0,h3,hn,hg,hmd,hrd,e1,S2_n,S2_gl,S2_md,S2_rd,nRv,nvR,I1,I2,I3,I5,I6,y1,y2,y3,h0,h3,h4,S5_n,S5_gl,S5_md,S5_rd,v_S5]) (by omega)) rfl (fun r6 S6 h6=>?_)
      obtain⟨T6,q6,hT6,hG6⟩:=h6
      subst q6
      have S6_n:=hG6.n
      try simp[S1_n,S1_gl,S1_md,S1_rd,h0,h3,hn,hg,hmd,hrd,e1,S2_n,S2_gl,S2_md,S2_rd,nRv,nvR,I1,I2,I3,I5,I6,y1,y2,y3,h0,h3,h4,S5_n,S5_gl,S5_md,S5_rd,v_S5] at S6_n
      have S6_gl:=hG6.gl
      try simp[S1_n,S1_gl,S1_md,S1_rd,h0,h3,hn,hg,hmd,hrd,e1,S2_n,S2_gl,S2_md,S2_rd,nRv,nvR,I1,I2,I3,I5,I6,y1,y2,y3,h0,h3,h4,S5_n,S5_gl,S5_md,S5_rd,v_S5,S6_n] at S6_gl
      have S6_md:=hG6.md
      try simp[S1_n,S1_gl,S1_md,S1_rd,h0,h3,hn,hg,hmd,hrd,e1,S2_n,S2_gl,S2_md,S2_rd,nRv,nvR,I1,I2,I3,I5,I6,y1,y2,y3,h0,h3,h4,S5_n,S5_gl,S5_md,S5_rd,v_S5,S6_n,S6_gl] at S6_md
      have S6_nx:=hG6.nx
      try simp[S1_n,S1_gl,S1_md,S1_rd,h0,h3,hn,hg,hmd,hrd,e1,S2_n,S2_gl,S2_md,S2_rd,nRv,nvR,I1,I2,I3,I5,I6,y1,y2,y3,h0,h3,h4,S5_n,S5_gl,S5_md,S5_rd,v_S5,S6_n,S6_gl,S6_md] at S6_nx
      have S6_rd:=hG6.rd
      have v_S6:=hG6.old v (by first | omega | (simp;omega)) (by omega)
      try simp[S1_n,S1_gl,S1_md,S1_rd,h0,h3,hn,hg,hmd,hrd,e1,S2_n,S2_gl,S2_md,S2_rd,nRv,nvR,I1,I2,I3,I5,I6,y1,y2,y3,h0,h3,h4,S5_n,S5_gl,S5_md,S5_rd,v_S5,S6_n,S6_gl,S6_md,S6_rd] at v_S6
      have S6_o:∀ y,y<N→y≠R→S6.B y=Sr.B y:=fun y k1 k2=>by
        have a1:=hG6.old y (by first | omega | (simp;omega)) k2
        have y1:¬ y=v:=by omega
        try simp[y1] at a1
        exact a1.trans (S5_o y k1 k2)
      have S6_t:∀ y,y<N→S6.T y=Sr.T y:=fun y k1=>by
        have a1:=hG6.T y (by first | omega | (simp;omega))
        try simp at a1
        exact a1.trans (S5_t y k1)
      obtain⟨ta,tb,tc,rfl⟩:=three_of (by rw[← shs_len,hT6];simp:T6.length=3)
      simp[S1_n,S1_gl,S1_md,S1_rd,h0,h3,hn,hg,hmd,hrd,e1,S2_n,S2_gl,S2_md,S2_rd,nRv,nvR,I1,I2,I3,I5,I6,y1,y2,y3,h0,h3,h4,S5_n,S5_gl,S5_md,S5_rd,v_S5,S6_n,S6_gl,S6_md,S6_rd,v_S6]
      obtain⟨xY,eY,shY,atY⟩:=I7
      refine OpT_addZ2 (e:=194) (by_:=88) (lo2:=N) (hi2:=S6.nx) [.d (.string (wd ws i)),xY,ta,tb,tc] (by kernel_rfl) hA (rowsZ_len (fun x=>by simp) _) (by unfold appBound;omega) (by rw[eY];rfl) rfl (by omega) (by omega) (by omega) (by omega) ?_ ?_ ?_
      · intro b k1 k2
        have z1:¬ b=v:=by omega
        simp[z1]
        exact (S6_o b (by omega) (by omega)).trans (by rw[hSr])
      · refine .cons_d (.app (a:=[xY]) (mid:=Z.nx) ((atY.keep fun b k1 k2=>?_).le (by omega) (Nat.le_refl _)) ((hG6.new.keep fun b k1 k2=>?_).le ?_ (Nat.le_refl _)) (by omega) (by omega))
        · have z1:¬ b=v:=by omega
          have o6:=hG6.old b (by simp;omega) (by omega)
          have o5:=hG5.old b (by omega) (by omega)
          simp[z1] at o6 o5 ⊢
          exact o6.trans o5
        · simp at k1
          have z1:¬ b=v:=by omega
          simp[z1]
        · simp;omega
      · intro X9 S9 E9 hE9 hA9 hB9 hs9
        rw[hE9]
        have S9_n:=hs9.n
        have S9_gl:=hs9.gl
        have S9_md:=hs9.md
        have S9_nx:=hs9.nx
        have S9_R:=hB9 R (.inl (by omega)) (by omega)
        simp[S1_n,S1_gl,S1_md,S1_rd,h0,h3,hn,hg,hmd,hrd,e1,S2_n,S2_gl,S2_md,S2_rd,nRv,nvR,I1,I2,I3,I5,I6,y1,y2,y3,h0,h3,h4,S5_n,S5_gl,S5_md,S5_rd,v_S5,S6_n,S6_gl,S6_md,S6_rd,v_S6] at S9_n S9_gl S9_md S9_nx S9_R
        simp[S1_n,S1_gl,S1_md,S1_rd,h0,h3,hn,hg,hmd,hrd,e1,S2_n,S2_gl,S2_md,S2_rd,nRv,nvR,I1,I2,I3,I5,I6,y1,y2,y3,h0,h3,h4,S5_n,S5_gl,S5_md,S5_rd,v_S5,S6_n,S6_gl,S6_md,S6_rd,v_S6,S9_n,S9_gl,S9_md,S9_R]
        refine⟨⟨f,i',done++[⟨wd ws i,lx,t⟩],rest',hpf',by simpa using hL,rfl,X9,?_,?_,?_,by omega,rfl⟩,rdMu_lt hrd (j:=i') (b':=false) (by simp[S1_n,S1_gl,S1_md,S1_rd,h0,h3,hn,hg,hmd,hrd,e1,S2_n,S2_gl,S2_md,S2_rd,nRv,nvR,I1,I2,I3,I5,I6,y1,y2,y3,h0,h3,h4,S5_n,S5_gl,S5_md,S5_rd,v_S5,S6_n,S6_gl,S6_md,S6_rd,v_S6,S9_n,S9_gl,S9_md,S9_R]) (by omega) (by omega)⟩
        · have e9:shs [.d (.string (wd ws i)),xY,ta,tb,tc]=Fld.sz ⟨wd ws i,lx,t⟩:=by
            simp[Fld.sz, ← hT6,shs,Ld.sh,shY]
          rw[rows_add, ← e9]
          have h9:=hA9.keep (S':=S9) (lo':=u) (hi':=S9.nx) (fun b k1 k2=>rfl) (Nat.le_refl _) (by omega)
          simpa using h9
        · intro y k1 k2
          have z1:¬ y=v:=by omega
          have a9:=hB9 y (.inl (by omega)) (by omega)
          simp[z1] at a9
          rw[a9]
          exact (S6_o y (by omega) k2).trans ((by rw[hSr]:Sr.B y=_).trans (ho y k1 k2))
        · intro y k1
          have a9:=congrFun hs9.T y
          simp at a9
          rw[a9]
          exact (S6_t y (by omega)).trans ((by rw[hSr]:Sr.T y=_).trans (hT y k1))
theorem txK_len (l:List ByteArray):(txK l).length=l.length*1:=by
  induction l with
  | nil=>rfl
  | cons x r ih=>simp[txK] at ih ⊢
theorem txK_add (l:List ByteArray) (s:ByteArray):txK (l++[s])=txK l++[.d (.string s)]:=by simp[txK]
set_option maxHeartbeats 16000000 in
theorem l_def (ws:List ByteArray) (hl:ws.length≤1048576) (S0:St) (R i0 j:Nat) (d:Def) (hp:pDef ws i0=some (d,j)) (hR:R<S0.nx) (h:S0.B R=some (rdC ws i0 false)) :
    ∃ r S',LCall Tryz.prog 252 [.op R 0] S0 r S'∧∃ X,r=.ag (svs X)∧shs X=Def.sz d∧Got S0 S' R (rdC ws j false) X:=by
  have hj:=pDef_le hp
  obtain⟨hn0,hbd⟩:=pDef_some hp
  have hn1:=nameB_lt hn0
  refine LCall.ex_ (md:=[1000045,1000059,1000078]) Tryz.func252 rfl (by kernel_rfl) (by kernel_rfl) (n:=82) Tryz.ntmps252 (by simp) (by decide) rfl ?_
  simp[h]
  generalize hu:S0.nx=u at *
  have n1:¬ R=u:=by omega
  have n2:¬ u=R:=by omega
  refine CallT.x (l_next _ R ws i0 false (by simp;omega) (by simp[n1,n2,h]) hl (by omega)) rfl (fun r1 S1 h1=>?_)
  obtain⟨q1,hG1⟩:=h1
  subst q1
  obtain⟨N,hN⟩:∃ N,u=N:=⟨_,rfl⟩
  obtain⟨Sr,hSr⟩:∃ Sr,S0=Sr:=⟨_,rfl⟩
  have hrO:∀ y,y<N→y≠R→S0.B y=Sr.B y:=fun y _ _=>by rw[hSr]
  have hrT:∀ y,y<N→S0.T y=Sr.T y:=fun y _=>by rw[hSr]
  have S1_n:=hG1.n
  try simp[n1,n2,h] at S1_n
  have S1_gl:=hG1.gl
  try simp[n1,n2,h,S1_n] at S1_gl
  have S1_md:=hG1.md
  try simp[n1,n2,h,S1_n,S1_gl] at S1_md
  have S1_nx:=hG1.nx
  try simp[n1,n2,h,S1_n,S1_gl,S1_md] at S1_nx
  have S1_rd:=hG1.rd
  have u_S1:=hG1.old u (by first | omega | (simp;omega)) (by omega)
  try simp[n1,n2,h,S1_n,S1_gl,S1_md,S1_rd] at u_S1
  have S1_o:∀ y,y<N→y≠R→S1.B y=Sr.B y:=fun y k1 k2=>by
    have a1:=hG1.old y (by first | omega | (simp;omega)) k2
    have y1:¬ y=u:=by omega
    try simp[y1] at a1
    exact a1.trans (hrO y k1 k2)
  have S1_t:∀ y,y<N→S1.T y=Sr.T y:=fun y k1=>by
    have a1:=hG1.T y (by first | omega | (simp;omega))
    try simp at a1
    exact a1.trans (hrT y k1)
  simp[n1,n2,h,S1_n,S1_gl,S1_md,S1_rd,u_S1]
  refine CallT.x (l_name _ R ws (i0+1) false (by simp;omega) (by simp[n1,n2,h,S1_n,S1_gl,S1_md,S1_rd,u_S1]) hl (by omega) hn0 (by have:=nameB_size hn0;omega)) rfl (fun r2 S2 h2=>?_)
  obtain⟨q2,hG2⟩:=h2
  subst q2
  have S2_n:=hG2.n
  try simp[n1,n2,h,S1_n,S1_gl,S1_md,S1_rd,u_S1] at S2_n
  have S2_gl:=hG2.gl
  try simp[n1,n2,h,S1_n,S1_gl,S1_md,S1_rd,u_S1,S2_n] at S2_gl
  have S2_md:=hG2.md
  try simp[n1,n2,h,S1_n,S1_gl,S1_md,S1_rd,u_S1,S2_n,S2_gl] at S2_md
  have S2_nx:=hG2.nx
  try simp[n1,n2,h,S1_n,S1_gl,S1_md,S1_rd,u_S1,S2_n,S2_gl,S2_md] at S2_nx
  have S2_rd:=hG2.rd
  have u_S2:=hG2.old u (by first | omega | (simp;omega)) (by omega)
  try simp[n1,n2,h,S1_n,S1_gl,S1_md,S1_rd,u_S1,S2_n,S2_gl,S2_md,S2_rd] at u_S2
  have S2_o:∀ y,y<N→y≠R→S2.B y=Sr.B y:=fun y k1 k2=>by
    have a1:=hG2.old y (by first | omega | (simp;omega)) k2
    have y1:¬ y=u:=by omega
    try simp[y1] at a1
    exact a1.trans (S1_o y k1 k2)
  have S2_t:∀ y,y<N→S2.T y=Sr.T y:=fun y k1=>by
    have a1:=hG2.T y (by first | omega | (simp;omega))
    try simp at a1
    exact a1.trans (S1_t y k1)
  simp[n1,n2,h,S1_n,S1_gl,S1_md,S1_rd,u_S1,S2_n,S2_gl,S2_md,S2_rd,u_S2]
  obtain⟨v,hv⟩:∃ v,S1.nx+3=v:=⟨_,rfl⟩
  have n3:¬ R=v:=by omega
  have n4:¬ v=R:=by omega
  have n5:¬ u=v:=by omega
  have n6:¬ v=u:=by omega
  rw[hv]
  rcases pBody_some hbd with ⟨e1,e2,l,q,e3,rfl,rfl⟩ | ⟨e1,e2,l,q,e3,rfl,rfl⟩ | ⟨e1,e2,l,q,e3,rfl,rfl⟩ | ⟨e1,e2,e4,l,e3,rfl⟩
  · skip
    have hq:=pFlds_le e3
    simp[n1,n2,h,S1_n,S1_gl,S1_md,S1_rd,u_S1,S2_n,S2_gl,S2_md,S2_rd,u_S2,n3,n4,n5,n6,e1,typeS,inputS,enumS,unionS]
    refine CallT.x (l_fields ws hl _ R (i0+2) q l e2 e3 (by simp;omega) (by simp[n1,n2,h,S1_n,S1_gl,S1_md,S1_rd,u_S1,S2_n,S2_gl,S2_md,S2_rd,u_S2,n3,n4,n5,n6,e1,typeS,inputS,enumS,unionS])) rfl (fun r3 S3 h3=>?_)
    obtain⟨x,q3,hx,hG3⟩:=h3
    subst q3
    obtain⟨x1,x2,x3⟩:=z_one hx
    have S3_n:=hG3.n
    try simp[n1,n2,h,S1_n,S1_gl,S1_md,S1_rd,u_S1,S2_n,S2_gl,S2_md,S2_rd,u_S2,n3,n4,n5,n6,e1,typeS,inputS,enumS,unionS] at S3_n
    have S3_gl:=hG3.gl
    try simp[n1,n2,h,S1_n,S1_gl,S1_md,S1_rd,u_S1,S2_n,S2_gl,S2_md,S2_rd,u_S2,n3,n4,n5,n6,e1,typeS,inputS,enumS,unionS,S3_n] at S3_gl
    have S3_md:=hG3.md
    try simp[n1,n2,h,S1_n,S1_gl,S1_md,S1_rd,u_S1,S2_n,S2_gl,S2_md,S2_rd,u_S2,n3,n4,n5,n6,e1,typeS,inputS,enumS,unionS,S3_n,S3_gl] at S3_md
    have S3_nx:=hG3.nx
    try simp[n1,n2,h,S1_n,S1_gl,S1_md,S1_rd,u_S1,S2_n,S2_gl,S2_md,S2_rd,u_S2,n3,n4,n5,n6,e1,typeS,inputS,enumS,unionS,S3_n,S3_gl,S3_md] at S3_nx
    have S3_rd:=hG3.rd
    have u_S3:=hG3.old u (by first | omega | (simp;omega)) (by omega)
    try simp[n1,n2,h,S1_n,S1_gl,S1_md,S1_rd,u_S1,S2_n,S2_gl,S2_md,S2_rd,u_S2,n3,n4,n5,n6,e1,typeS,inputS,enumS,unionS,S3_n,S3_gl,S3_md,S3_rd] at u_S3
    have v_S3:=hG3.old v (by first | omega | (simp;omega)) (by omega)
    try simp[n1,n2,h,S1_n,S1_gl,S1_md,S1_rd,u_S1,S2_n,S2_gl,S2_md,S2_rd,u_S2,n3,n4,n5,n6,e1,typeS,inputS,enumS,unionS,S3_n,S3_gl,S3_md,S3_rd,u_S3] at v_S3
    have S3_o:∀ y,y<N→y≠R→S3.B y=Sr.B y:=fun y k1 k2=>by
      have a1:=hG3.old y (by first | omega | (simp;omega)) k2
      have y1:¬ y=u:=by omega
      have y2:¬ y=v:=by omega
      try simp[y1,y2] at a1
      exact a1.trans (S2_o y k1 k2)
    have S3_t:∀ y,y<N→S3.T y=Sr.T y:=fun y k1=>by
      have a1:=hG3.T y (by first | omega | (simp;omega))
      try simp at a1
      exact a1.trans (S2_t y k1)
    simp[n1,n2,h,S1_n,S1_gl,S1_md,S1_rd,u_S1,S2_n,S2_gl,S2_md,S2_rd,u_S2,n3,n4,n5,n6,e1,typeS,inputS,enumS,unionS,S3_n,S3_gl,S3_md,S3_rd,u_S3,v_S3,x1,x2,x3]
    refine⟨[.d (.string (wd ws (i0+1))), .d (.int .i64 1),x, .nil],rfl,by simp[shs,Ld.sh,hx,Def.sz,skT],rfl,rfl,rfl,by simp;omega,by simp[n1,n2,h,S1_n,S1_gl,S1_md,S1_rd,u_S1,S2_n,S2_gl,S2_md,S2_rd,u_S2,n3,n4,n5,n6,e1,typeS,inputS,enumS,unionS,S3_n,S3_gl,S3_md,S3_rd,u_S3,v_S3,x1,x2,x3],?_,?_,?_⟩
    · intro y k1 k2
      have z1:¬ y=u:=by omega
      have z2:¬ y=v:=by omega
      simp[z1,z2]
      exact (S3_o y (by omega) k2).trans (by rw[hSr])
    · intro y k1
      exact (S3_t y (by omega)).trans (by rw[hSr])
    · refine .cons_d (.cons_d (.app (a:=[x]) (mid:=S3.nx) ((hG3.new.keep fun b k1 k2=>?_).le ?_ (Nat.le_refl _)) (.cons_nil .nil) (by omega) (by simp)))
      · simp at k1
        have z1:¬ b=u:=by omega
        have z2:¬ b=v:=by omega
        simp[z1,z2]
      · simp;omega
  · skip
    have hq:=pFlds_le e3
    simp[n1,n2,h,S1_n,S1_gl,S1_md,S1_rd,u_S1,S2_n,S2_gl,S2_md,S2_rd,u_S2,n3,n4,n5,n6,e1,typeS,inputS,enumS,unionS]
    refine CallT.x (l_fields ws hl _ R (i0+2) q l e2 e3 (by simp;omega) (by simp[n1,n2,h,S1_n,S1_gl,S1_md,S1_rd,u_S1,S2_n,S2_gl,S2_md,S2_rd,u_S2,n3,n4,n5,n6,e1,typeS,inputS,enumS,unionS])) rfl (fun r3 S3 h3=>?_)
    obtain⟨x,q3,hx,hG3⟩:=h3
    subst q3
    obtain⟨x1,x2,x3⟩:=z_one hx
    have S3_n:=hG3.n
    try simp[n1,n2,h,S1_n,S1_gl,S1_md,S1_rd,u_S1,S2_n,S2_gl,S2_md,S2_rd,u_S2,n3,n4,n5,n6,e1,typeS,inputS,enumS,unionS] at S3_n
    have S3_gl:=hG3.gl
    try simp[n1,n2,h,S1_n,S1_gl,S1_md,S1_rd,u_S1,S2_n,S2_gl,S2_md,S2_rd,u_S2,n3,n4,n5,n6,e1,typeS,inputS,enumS,unionS,S3_n] at S3_gl
    have S3_md:=hG3.md
    try simp[n1,n2,h,S1_n,S1_gl,S1_md,S1_rd,u_S1,S2_n,S2_gl,S2_md,S2_rd,u_S2,n3,n4,n5,n6,e1,typeS,inputS,enumS,unionS,S3_n,S3_gl] at S3_md
    have S3_nx:=hG3.nx
    try simp[n1,n2,h,S1_n,S1_gl,S1_md,S1_rd,u_S1,S2_n,S2_gl,S2_md,S2_rd,u_S2,n3,n4,n5,n6,e1,typeS,inputS,enumS,unionS,S3_n,S3_gl,S3_md] at S3_nx
    have S3_rd:=hG3.rd
    have u_S3:=hG3.old u (by first | omega | (simp;omega)) (by omega)
    try simp[n1,n2,h,S1_n,S1_gl,S1_md,S1_rd,u_S1,S2_n,S2_gl,S2_md,S2_rd,u_S2,n3,n4,n5,n6,e1,typeS,inputS,enumS,unionS,S3_n,S3_gl,S3_md,S3_rd] at u_S3
    have v_S3:=hG3.old v (by first | omega | (simp;omega)) (by omega)
    try simp[n1,n2,h,S1_n,S1_gl,S1_md,S1_rd,u_S1,S2_n,S2_gl,S2_md,S2_rd,u_S2,n3,n4,n5,n6,e1,typeS,inputS,enumS,unionS,S3_n,S3_gl,S3_md,S3_rd,u_S3] at v_S3
    have S3_o:∀ y,y<N→y≠R→S3.B y=Sr.B y:=fun y k1 k2=>by
      have a1:=hG3.old y (by first | omega | (simp;omega)) k2
      have y1:¬ y=u:=by omega
      have y2:¬ y=v:=by omega
      try simp[y1,y2] at a1
      exact a1.trans (S2_o y k1 k2)
    have S3_t:∀ y,y<N→S3.T y=Sr.T y:=fun y k1=>by
      have a1:=hG3.T y (by first | omega | (simp;omega))
      try simp at a1
      exact a1.trans (S2_t y k1)
    simp[n1,n2,h,S1_n,S1_gl,S1_md,S1_rd,u_S1,S2_n,S2_gl,S2_md,S2_rd,u_S2,n3,n4,n5,n6,e1,typeS,inputS,enumS,unionS,S3_n,S3_gl,S3_md,S3_rd,u_S3,v_S3,x1,x2,x3]
    refine⟨[.d (.string (wd ws (i0+1))), .d (.int .i64 3),x, .nil],rfl,by simp[shs,Ld.sh,hx,Def.sz,skT],rfl,rfl,rfl,by simp;omega,by simp[n1,n2,h,S1_n,S1_gl,S1_md,S1_rd,u_S1,S2_n,S2_gl,S2_md,S2_rd,u_S2,n3,n4,n5,n6,e1,typeS,inputS,enumS,unionS,S3_n,S3_gl,S3_md,S3_rd,u_S3,v_S3,x1,x2,x3],?_,?_,?_⟩
    · intro y k1 k2
      have z1:¬ y=u:=by omega
      have z2:¬ y=v:=by omega
      simp[z1,z2]
      exact (S3_o y (by omega) k2).trans (by rw[hSr])
    · intro y k1
      exact (S3_t y (by omega)).trans (by rw[hSr])
    · refine .cons_d (.cons_d (.app (a:=[x]) (mid:=S3.nx) ((hG3.new.keep fun b k1 k2=>?_).le ?_ (Nat.le_refl _)) (.cons_nil .nil) (by omega) (by simp)))
      · simp at k1
        have z1:¬ b=u:=by omega
        have z2:¬ b=v:=by omega
        simp[z1,z2]
      · simp;omega
  · skip
    have hq:=pWds_le e3
    simp[n1,n2,h,S1_n,S1_gl,S1_md,S1_rd,u_S1,S2_n,S2_gl,S2_md,S2_rd,u_S2,n3,n4,n5,n6,e1,typeS,inputS,enumS,unionS]
    refine CallT.x (l_must _ R ws (i0+2) false ⟨#[123]⟩ (by simp;omega) (by simp[n1,n2,h,S1_n,S1_gl,S1_md,S1_rd,u_S1,S2_n,S2_gl,S2_md,S2_rd,u_S2,n3,n4,n5,n6,e1,typeS,inputS,enumS,unionS]) hl (by omega) e2) rfl (fun r3 S3 hG3=>?_)
    have S3_n:=hG3.n
    try simp[n1,n2,h,S1_n,S1_gl,S1_md,S1_rd,u_S1,S2_n,S2_gl,S2_md,S2_rd,u_S2,n3,n4,n5,n6,e1,typeS,inputS,enumS,unionS] at S3_n
    have S3_gl:=hG3.gl
    try simp[n1,n2,h,S1_n,S1_gl,S1_md,S1_rd,u_S1,S2_n,S2_gl,S2_md,S2_rd,u_S2,n3,n4,n5,n6,e1,typeS,inputS,enumS,unionS,S3_n] at S3_gl
    have S3_md:=hG3.md
    try simp[n1,n2,h,S1_n,S1_gl,S1_md,S1_rd,u_S1,S2_n,S2_gl,S2_md,S2_rd,u_S2,n3,n4,n5,n6,e1,typeS,inputS,enumS,unionS,S3_n,S3_gl] at S3_md
    have S3_nx:=hG3.nx
    try simp[n1,n2,h,S1_n,S1_gl,S1_md,S1_rd,u_S1,S2_n,S2_gl,S2_md,S2_rd,u_S2,n3,n4,n5,n6,e1,typeS,inputS,enumS,unionS,S3_n,S3_gl,S3_md] at S3_nx
    have S3_rd:=hG3.rd
    have u_S3:=hG3.old u (by first | omega | (simp;omega)) (by omega)
    try simp[n1,n2,h,S1_n,S1_gl,S1_md,S1_rd,u_S1,S2_n,S2_gl,S2_md,S2_rd,u_S2,n3,n4,n5,n6,e1,typeS,inputS,enumS,unionS,S3_n,S3_gl,S3_md,S3_rd] at u_S3
    have v_S3:=hG3.old v (by first | omega | (simp;omega)) (by omega)
    try simp[n1,n2,h,S1_n,S1_gl,S1_md,S1_rd,u_S1,S2_n,S2_gl,S2_md,S2_rd,u_S2,n3,n4,n5,n6,e1,typeS,inputS,enumS,unionS,S3_n,S3_gl,S3_md,S3_rd,u_S3] at v_S3
    have S3_o:∀ y,y<N→y≠R→S3.B y=Sr.B y:=fun y k1 k2=>by
      have a1:=hG3.old y (by first | omega | (simp;omega)) k2
      have y1:¬ y=u:=by omega
      have y2:¬ y=v:=by omega
      try simp[y1,y2] at a1
      exact a1.trans (S2_o y k1 k2)
    have S3_t:∀ y,y<N→S3.T y=Sr.T y:=fun y k1=>by
      have a1:=hG3.T y (by first | omega | (simp;omega))
      try simp at a1
      exact a1.trans (S2_t y k1)
    simp[n1,n2,h,S1_n,S1_gl,S1_md,S1_rd,u_S1,S2_n,S2_gl,S2_md,S2_rd,u_S2,n3,n4,n5,n6,e1,typeS,inputS,enumS,unionS,S3_n,S3_gl,S3_md,S3_rd,u_S3,v_S3]
    refine LoopT.round (fun E S=>∃ (f:Nat) (i:Nat) (done:List ByteArray) (rest:List ByteArray) (Y:SV),(pWds ws f i=some (rest,q))∧(done++rest=l)∧(S.B R=some (rdC ws i false))∧(AccZ S (v+1) S.nx 1 done.length (txK done) Y)∧(∀ y,y<N→y≠R→S.B y=Sr.B y)∧(∀ y,y<N→S.T y=Sr.T y)∧(v+1≤S.nx)∧(S.B u=some [.d (dS ⟨#[]⟩), .d (dI 0), .fl [] 0, .fl [] 0])∧(S.B v=some [.d (dS (wd ws (i0+1))), .d (dI 2), .fl [] 0,Y])∧E 0=some (.op R 0)∧E 2=some (.op u 0)∧E 4=some (.op v 0)) (rdMu R ws.length) ⟨ws.length,i0+3,[],l, .fl [] 0,by simp[n1,n2,h,S1_n,S1_gl,S1_md,S1_rd,u_S1,S2_n,S2_gl,S2_md,S2_rd,u_S2,n3,n4,n5,n6,e1,typeS,inputS,enumS,unionS,S3_n,S3_gl,S3_md,S3_rd,u_S3,v_S3];exact⟨e3,AccZ.nil,S3_o,S3_t,by omega⟩⟩ ?_
    rintro E S hk ⟨f,i,done,rest,Y,hpf,hL,hrd,hA,hrO2,hrT2,hnx,hBu,hBv,h0,h2,h4⟩
    have hn:S.n=82:=by first | (simpa using hk.n)|(have hh:=hk.n;simp[n1,n2,h,S1_n,S1_gl,S1_md,S1_rd,u_S1,S2_n,S2_gl,S2_md,S2_rd,u_S2,n3,n4,n5,n6,e1,typeS,inputS,enumS,unionS,S3_n,S3_gl,S3_md,S3_rd,u_S3,v_S3] at hh;exact hh)
    have hg:S.gl=S0.gl:=by first | (simpa using hk.gl)|(have hh:=hk.gl;simp[n1,n2,h,S1_n,S1_gl,S1_md,S1_rd,u_S1,S2_n,S2_gl,S2_md,S2_rd,u_S2,n3,n4,n5,n6,e1,typeS,inputS,enumS,unionS,S3_n,S3_gl,S3_md,S3_rd,u_S3,v_S3] at hh;exact hh)
    have hmd:S.md=[1000045,1000059,1000078]:=by first | (simpa using hk.md)|(have hh:=hk.md;simp[n1,n2,h,S1_n,S1_gl,S1_md,S1_rd,u_S1,S2_n,S2_gl,S2_md,S2_rd,u_S2,n3,n4,n5,n6,e1,typeS,inputS,enumS,unionS,S3_n,S3_gl,S3_md,S3_rd,u_S3,v_S3] at hh;exact hh)
    simp[n1,n2,h,S1_n,S1_gl,S1_md,S1_rd,u_S1,S2_n,S2_gl,S2_md,S2_rd,u_S2,n3,n4,n5,n6,e1,typeS,inputS,enumS,unionS,S3_n,S3_gl,S3_md,S3_rd,u_S3,v_S3,h0,h2,h4,hn,hg,hmd]
    obtain⟨f,rfl⟩:∃ g,f=g+1:=by
      cases f with
      | zero=>cases hpf
      | succ g=>exact⟨g,rfl⟩
    have hle:=pWds_le hpf
    have hdl:done.length≤ws.length:=by
      have:=pWds_len e3
      rw[← hL] at this
      simp at this
      omega
    obtain⟨y1,y2,y3⟩:=hA.one
    refine CallT.l (l_peek (ws:=ws) (i:=i) (bad:=false) (by simp[n1,n2,h,S1_n,S1_gl,S1_md,S1_rd,u_S1,S2_n,S2_gl,S2_md,S2_rd,u_S2,n3,n4,n5,n6,e1,typeS,inputS,enumS,unionS,S3_n,S3_gl,S3_md,S3_rd,u_S3,v_S3,h0,h2,h4,hn,hg,hmd,hrd,hBu,hBv,y1,y2,y3]) hl (by omega)) rfl ?_
    rcases pWds_some hpf with ⟨e4,rfl,rfl⟩ | ⟨e4,e5,r',hpf',rfl⟩
    · have e4':=e4
      simp[n1,n2,h,S1_n,S1_gl,S1_md,S1_rd,u_S1,S2_n,S2_gl,S2_md,S2_rd,u_S2,n3,n4,n5,n6,e1,typeS,inputS,enumS,unionS,S3_n,S3_gl,S3_md,S3_rd,u_S3,v_S3,h0,h2,h4,hn,hg,hmd,hrd,hBu,hBv,y1,y2,y3,e4]
      refine CallT.x (l_must _ R ws q false ⟨#[125]⟩ (by simp;omega) (by simp[n1,n2,h,S1_n,S1_gl,S1_md,S1_rd,u_S1,S2_n,S2_gl,S2_md,S2_rd,u_S2,n3,n4,n5,n6,e1,typeS,inputS,enumS,unionS,S3_n,S3_gl,S3_md,S3_rd,u_S3,v_S3,h0,h2,h4,hn,hg,hmd,hrd,hBu,hBv,y1,y2,y3,e4]) hl (by omega) e4') rfl (fun r5 S5 hG5=>?_)
      have S5_n:=hG5.n
      try simp[n1,n2,h,S1_n,S1_gl,S1_md,S1_rd,u_S1,S2_n,S2_gl,S2_md,S2_rd,u_S2,n3,n4,n5,n6,e1,typeS,inputS,enumS,unionS,S3_n,S3_gl,S3_md,S3_rd,u_S3,v_S3,h0,h2,h4,hn,hg,hmd,hrd,hBu,hBv,y1,y2,y3,e4] at S5_n
      have S5_gl:=hG5.gl
      try simp[n1,n2,h,S1_n,S1_gl,S1_md,S1_rd,u_S1,S2_n,S2_gl,S2_md,S2_rd,u_S2,n3,n4,n5,n6,e1,typeS,inputS,enumS,unionS,S3_n,S3_gl,S3_md,S3_rd,u_S3,v_S3,h0,h2,h4,hn,hg,hmd,hrd,hBu,hBv,y1,y2,y3,e4,S5_n] at S5_gl
      have S5_md:=hG5.md
      try simp[n1,n2,h,S1_n,S1_gl,S1_md,S1_rd,u_S1,S2_n,S2_gl,S2_md,S2_rd,u_S2,n3,n4,n5,n6,e1,typeS,inputS,enumS,unionS,S3_n,S3_gl,S3_md,S3_rd,u_S3,v_S3,h0,h2,h4,hn,hg,hmd,hrd,hBu,hBv,y1,y2,y3,e4,S5_n,S5_gl] at S5_md
      have S5_nx:=hG5.nx
      try simp[n1,n2,h,S1_n,S1_gl,S1_md,S1_rd,u_S1,S2_n,S2_gl,S2_md,S2_rd,u_S2,n3,n4,n5,n6,e1,typeS,inputS,enumS,unionS,S3_n,S3_gl,S3_md,S3_rd,u_S3,v_S3,h0,h2,h4,hn,hg,hmd,hrd,hBu,hBv,y1,y2,y3,e4,S5_n,S5_gl,S5_md] at S5_nx
      have S5_rd:=hG5.rd
      have u_S5:=hG5.old u (by first | omega | (simp;omega)) (by omega)
      try simp[n1,n2,h,S1_n,S1_gl,S1_md,S1_rd,u_S1,S2_n,S2_gl,S2_md,S2_rd,u_S2,n3,n4,n5,n6,e1,typeS,inputS,enumS,unionS,S3_n,S3_gl,S3_md,S3_rd,u_S3,v_S3,h0,h2,h4,hn,hg,hmd,hrd,hBu,hBv,y1,y2,y3,e4,S5_n,S5_gl,S5_md,S5_rd] at u_S5
      have v_S5:=hG5.old v (by first | omega | (simp;omega)) (by omega)
      try simp[n1,n2,h,S1_n,S1_gl,S1_md,S1_rd,u_S1,S2_n,S2_gl,S2_md,S2_rd,u_S2,n3,n4,n5,n6,e1,typeS,inputS,enumS,unionS,S3_n,S3_gl,S3_md,S3_rd,u_S3,v_S3,h0,h2,h4,hn,hg,hmd,hrd,hBu,hBv,y1,y2,y3,e4,S5_n,S5_gl,S5_md,S5_rd,u_S5] at v_S5
      have S5_o:∀ y,y<N→y≠R→S5.B y=Sr.B y:=fun y k1 k2=>by
        have a1:=hG5.old y (by first | omega | (simp;omega)) k2
        have y1:¬ y=u:=by omega
        have y2:¬ y=v:=by omega
        try simp[y1,y2] at a1
        exact a1.trans (hrO2 y k1 k2)
      have S5_t:∀ y,y<N→S5.T y=Sr.T y:=fun y k1=>by
        have a1:=hG5.T y (by first | omega | (simp;omega))
        try simp at a1
        exact a1.trans (hrT2 y k1)
      simp[n1,n2,h,S1_n,S1_gl,S1_md,S1_rd,u_S1,S2_n,S2_gl,S2_md,S2_rd,u_S2,n3,n4,n5,n6,e1,typeS,inputS,enumS,unionS,S3_n,S3_gl,S3_md,S3_rd,u_S3,v_S3,h0,h2,h4,hn,hg,hmd,hrd,hBu,hBv,y1,y2,y3,e4,S5_n,S5_gl,S5_md,S5_rd,u_S5,v_S5]
      obtain⟨x,rfl,x2,x3⟩:=hA
      rw[List.append_nil] at hL
      subst hL
      refine⟨[.d (.string (wd ws (i0+1))), .d (.int .i64 2), .nil,x],rfl,by simp[shs,Ld.sh,x2,Def.sz,skT],rfl,rfl,rfl,by simp;omega,by simp[n1,n2,h,S1_n,S1_gl,S1_md,S1_rd,u_S1,S2_n,S2_gl,S2_md,S2_rd,u_S2,n3,n4,n5,n6,e1,typeS,inputS,enumS,unionS,S3_n,S3_gl,S3_md,S3_rd,u_S3,v_S3,h0,h2,h4,hn,hg,hmd,hrd,hBu,hBv,y1,y2,y3,e4,S5_n,S5_gl,S5_md,S5_rd,u_S5,v_S5],?_,?_,?_⟩
      · intro y k1 k2
        have z1:¬ y=u:=by omega
        have z2:¬ y=v:=by omega
        simp[z1,z2]
        exact (S5_o y (by omega) k2).trans (by rw[hSr])
      · intro y k1
        exact (S5_t y (by omega)).trans (by rw[hSr])
      · refine .cons_d (.cons_d (.cons_nil ((x3.keep fun b k1 k2=>?_).le (by omega) (by simp;omega))))
        have z1:¬ b=u:=by omega
        have o5:=hG5.old b (by simp;omega) (by omega)
        simp[z1] at o5 ⊢
        exact o5
    · skip
      simp[n1,n2,h,S1_n,S1_gl,S1_md,S1_rd,u_S1,S2_n,S2_gl,S2_md,S2_rd,u_S2,n3,n4,n5,n6,e1,typeS,inputS,enumS,unionS,S3_n,S3_gl,S3_md,S3_rd,u_S3,v_S3,h0,h2,h4,hn,hg,hmd,hrd,hBu,hBv,y1,y2,y3,e4]
      refine⟨DrawT.mk (by kernel_rfl),?_⟩
      obtain⟨r4,S4,hL4,q4,hG4⟩:=l_name ((S.adv 10).adv 8) R ws i false (by simp;omega) (by simp[n1,n2,h,S1_n,S1_gl,S1_md,S1_rd,u_S1,S2_n,S2_gl,S2_md,S2_rd,u_S2,n3,n4,n5,n6,e1,typeS,inputS,enumS,unionS,S3_n,S3_gl,S3_md,S3_rd,u_S3,v_S3,h0,h2,h4,hn,hg,hmd,hrd,hBu,hBv,y1,y2,y3,e4]) hl (by omega) e5 (by have:=nameB_size e5;omega)
      subst q4
      have S4_n:=hG4.n
      try simp[n1,n2,h,S1_n,S1_gl,S1_md,S1_rd,u_S1,S2_n,S2_gl,S2_md,S2_rd,u_S2,n3,n4,n5,n6,e1,typeS,inputS,enumS,unionS,S3_n,S3_gl,S3_md,S3_rd,u_S3,v_S3,h0,h2,h4,hn,hg,hmd,hrd,hBu,hBv,y1,y2,y3,e4] at S4_n
      have S4_gl:=hG4.gl
      try simp[n1,n2,h,S1_n,S1_gl,S1_md,S1_rd,u_S1,S2_n,S2_gl,S2_md,S2_rd,u_S2,n3,n4,n5,n6,e1,typeS,inputS,enumS,unionS,S3_n,S3_gl,S3_md,S3_rd,u_S3,v_S3,h0,h2,h4,hn,hg,hmd,hrd,hBu,hBv,y1,y2,y3,e4,S4_n] at S4_gl
      have S4_md:=hG4.md
      try simp[n1,n2,h,S1_n,S1_gl,S1_md,S1_rd,u_S1,S2_n,S2_gl,S2_md,S2_rd,u_S2,n3,n4,n5,n6,e1,typeS,inputS,enumS,unionS,S3_n,S3_gl,S3_md,S3_rd,u_S3,v_S3,h0,h2,h4,hn,hg,hmd,hrd,hBu,hBv,y1,y2,y3,e4,S4_n,S4_gl] at S4_md
      have S4_nx:=hG4.nx
      try simp[n1,n2,h,S1_n,S1_gl,S1_md,S1_rd,u_S1,S2_n,S2_gl,S2_md,S2_rd,u_S2,n3,n4,n5,n6,e1,typeS,inputS,enumS,unionS,S3_n,S3_gl,S3_md,S3_rd,u_S3,v_S3,h0,h2,h4,hn,hg,hmd,hrd,hBu,hBv,y1,y2,y3,e4,S4_n,S4_gl,S4_md] at S4_nx
      have S4_rd:=hG4.rd
      have u_S4:=hG4.old u (by first | omega | (simp;omega)) (by omega)
      try simp[n1,n2,h,S1_n,S1_gl,S1_md,S1_rd,u_S1,S2_n,S2_gl,S2_md,S2_rd,u_S2,n3,n4,n5,n6,e1,typeS,inputS,enumS,unionS,S3_n,S3_gl,S3_md,S3_rd,u_S3,v_S3,h0,h2,h4,hn,hg,hmd,hrd,hBu,hBv,y1,y2,y3,e4,S4_n,S4_gl,S4_md,S4_rd] at u_S4
      have v_S4:=hG4.old v (by first | omega | (simp;omega)) (by omega)
      try simp[n1,n2,h,S1_n,S1_gl,S1_md,S1_rd,u_S1,S2_n,S2_gl,S2_md,S2_rd,u_S2,n3,n4,n5,n6,e1,typeS,inputS,enumS,unionS,S3_n,S3_gl,S3_md,S3_rd,u_S3,v_S3,h0,h2,h4,hn,hg,hmd,hrd,hBu,hBv,y1,y2,y3,e4,S4_n,S4_gl,S4_md,S4_rd,u_S4] at v_S4
      have S4_o:∀ y,y<N→y≠R→S4.B y=Sr.B y:=fun y k1 k2=>by
        have a1:=hG4.old y (by first | omega | (simp;omega)) k2
        have y1:¬ y=u:=by omega
        have y2:¬ y=v:=by omega
        try simp[y1,y2] at a1
        exact a1.trans (hrO2 y k1 k2)
      have S4_t:∀ y,y<N→S4.T y=Sr.T y:=fun y k1=>by
        have a1:=hG4.T y (by first | omega | (simp;omega))
        try simp at a1
        exact a1.trans (hrT2 y k1)
      refine CallT.calm [((1,4),3)] (by kernel_rfl) (by kernel_rfl) hL4 (by simp[n1,n2,h,S1_n,S1_gl,S1_md,S1_rd,u_S1,S2_n,S2_gl,S2_md,S2_rd,u_S2,n3,n4,n5,n6,e1,typeS,inputS,enumS,unionS,S3_n,S3_gl,S3_md,S3_rd,u_S3,v_S3,h0,h2,h4,hn,hg,hmd,hrd,hBu,hBv,y1,y2,y3,e4,S4_n,S4_gl,S4_md,S4_rd,u_S4,v_S4,Eh.e,refOf]) ?_
      simp[n1,n2,h,S1_n,S1_gl,S1_md,S1_rd,u_S1,S2_n,S2_gl,S2_md,S2_rd,u_S2,n3,n4,n5,n6,e1,typeS,inputS,enumS,unionS,S3_n,S3_gl,S3_md,S3_rd,u_S3,v_S3,h0,h2,h4,hn,hg,hmd,hrd,hBu,hBv,y1,y2,y3,e4,S4_n,S4_gl,S4_md,S4_rd,u_S4,v_S4]
      refine OpT_addZ2 (e:=9) (by_:=16) (lo2:=S.nx) (hi2:=S.nx) [.d (.string (wd ws i))] (by kernel_rfl) hA (txK_len _) (by unfold appBound;omega) rfl rfl (by omega) (by omega) (by omega) (by omega) ?_ (.cons_d .nil) ?_
      · intro b k1 k2
        have o4:=hG4.old b (by simp;omega) (by omega)
        simpa using o4
      · intro X9 S9 E9 hE9 hA9 hB9 hs9
        rw[hE9]
        have S9_n:=hs9.n
        have S9_gl:=hs9.gl
        have S9_md:=hs9.md
        have S9_nx:=hs9.nx
        have S9_R:=hB9 R (.inl (by omega)) (by omega)
        have S9_u:=hB9 u (.inl (by omega)) (by omega)
        have S9_v:=hB9 v (.inl (by omega)) (by omega)
        simp[n1,n2,h,S1_n,S1_gl,S1_md,S1_rd,u_S1,S2_n,S2_gl,S2_md,S2_rd,u_S2,n3,n4,n5,n6,e1,typeS,inputS,enumS,unionS,S3_n,S3_gl,S3_md,S3_rd,u_S3,v_S3,h0,h2,h4,hn,hg,hmd,hrd,hBu,hBv,y1,y2,y3,e4,S4_n,S4_gl,S4_md,S4_rd,u_S4,v_S4] at S9_n S9_gl S9_md S9_nx S9_R S9_u S9_v
        obtain⟨z1,z2,z3⟩:=hA9.one
        simp[n1,n2,h,S1_n,S1_gl,S1_md,S1_rd,u_S1,S2_n,S2_gl,S2_md,S2_rd,u_S2,n3,n4,n5,n6,e1,typeS,inputS,enumS,unionS,S3_n,S3_gl,S3_md,S3_rd,u_S3,v_S3,h0,h2,h4,hn,hg,hmd,hrd,hBu,hBv,y1,y2,y3,e4,S4_n,S4_gl,S4_md,S4_rd,u_S4,v_S4,S9_n,S9_gl,S9_md,S9_R,S9_u,S9_v,z1,z2,z3]
        refine⟨⟨f,i+1,done++[wd ws i],r',hpf',by simpa using hL,by simp,X9,?_,?_,?_,by omega,rfl⟩,rdMu_lt hrd (j:=i+1) (b':=false) (by simp[n1,n2,h,S1_n,S1_gl,S1_md,S1_rd,u_S1,S2_n,S2_gl,S2_md,S2_rd,u_S2,n3,n4,n5,n6,e1,typeS,inputS,enumS,unionS,S3_n,S3_gl,S3_md,S3_rd,u_S3,v_S3,h0,h2,h4,hn,hg,hmd,hrd,hBu,hBv,y1,y2,y3,e4,S4_n,S4_gl,S4_md,S4_rd,u_S4,v_S4,S9_n,S9_gl,S9_md,S9_R,S9_u,S9_v,z1,z2,z3]) (by omega) (by omega)⟩
        · rw[txK_add]
          have h9:=hA9.keep (S':=S9.set v [.d (dS (wd ws (i0+1))), .d (dI 2), .fl [] 0,X9]) (lo':=v+1) (hi':=S9.nx) (fun b k1 k2=>by simp[show ¬ b=v by omega]) (Nat.le_refl _) (by omega)
          simpa[shs,Ld.sh] using h9
        · intro y k1 k2
          have z1:¬ y=v:=by omega
          have a9:=hB9 y (.inl (by omega)) (by omega)
          rw[if_neg z1,a9]
          exact S4_o y k1 k2
        · intro y k1
          have a9:=congrFun hs9.T y
          rw[a9]
          exact S4_t y k1
  · skip
    have he4:=nameB_lt e4
    have hq:=pAlts_le (by omega) e3
    have hql:=pAlts_len e3
    simp[n1,n2,h,S1_n,S1_gl,S1_md,S1_rd,u_S1,S2_n,S2_gl,S2_md,S2_rd,u_S2,n3,n4,n5,n6,e1,typeS,inputS,enumS,unionS]
    refine CallT.x (l_must _ R ws (i0+2) false ⟨#[61]⟩ (by simp;omega) (by simp[n1,n2,h,S1_n,S1_gl,S1_md,S1_rd,u_S1,S2_n,S2_gl,S2_md,S2_rd,u_S2,n3,n4,n5,n6,e1,typeS,inputS,enumS,unionS]) hl (by omega) e2) rfl (fun r3 S3 hG3=>?_)
    have S3_n:=hG3.n
    try simp[n1,n2,h,S1_n,S1_gl,S1_md,S1_rd,u_S1,S2_n,S2_gl,S2_md,S2_rd,u_S2,n3,n4,n5,n6,e1,typeS,inputS,enumS,unionS] at S3_n
    have S3_gl:=hG3.gl
    try simp[n1,n2,h,S1_n,S1_gl,S1_md,S1_rd,u_S1,S2_n,S2_gl,S2_md,S2_rd,u_S2,n3,n4,n5,n6,e1,typeS,inputS,enumS,unionS,S3_n] at S3_gl
    have S3_md:=hG3.md
    try simp[n1,n2,h,S1_n,S1_gl,S1_md,S1_rd,u_S1,S2_n,S2_gl,S2_md,S2_rd,u_S2,n3,n4,n5,n6,e1,typeS,inputS,enumS,unionS,S3_n,S3_gl] at S3_md
    have S3_nx:=hG3.nx
    try simp[n1,n2,h,S1_n,S1_gl,S1_md,S1_rd,u_S1,S2_n,S2_gl,S2_md,S2_rd,u_S2,n3,n4,n5,n6,e1,typeS,inputS,enumS,unionS,S3_n,S3_gl,S3_md] at S3_nx
    have S3_rd:=hG3.rd
    have u_S3:=hG3.old u (by first | omega | (simp;omega)) (by omega)
    try simp[n1,n2,h,S1_n,S1_gl,S1_md,S1_rd,u_S1,S2_n,S2_gl,S2_md,S2_rd,u_S2,n3,n4,n5,n6,e1,typeS,inputS,enumS,unionS,S3_n,S3_gl,S3_md,S3_rd] at u_S3
    have v_S3:=hG3.old v (by first | omega | (simp;omega)) (by omega)
    try simp[n1,n2,h,S1_n,S1_gl,S1_md,S1_rd,u_S1,S2_n,S2_gl,S2_md,S2_rd,u_S2,n3,n4,n5,n6,e1,typeS,inputS,enumS,unionS,S3_n,S3_gl,S3_md,S3_rd,u_S3] at v_S3
    have S3_o:∀ y,y<N→y≠R→S3.B y=Sr.B y:=fun y k1 k2=>by
      have a1:=hG3.old y (by first | omega | (simp;omega)) k2
      have y1:¬ y=u:=by omega
      have y2:¬ y=v:=by omega
      try simp[y1,y2] at a1
      exact a1.trans (S2_o y k1 k2)
    have S3_t:∀ y,y<N→S3.T y=Sr.T y:=fun y k1=>by
      have a1:=hG3.T y (by first | omega | (simp;omega))
      try simp at a1
      exact a1.trans (S2_t y k1)
    simp[n1,n2,h,S1_n,S1_gl,S1_md,S1_rd,u_S1,S2_n,S2_gl,S2_md,S2_rd,u_S2,n3,n4,n5,n6,e1,typeS,inputS,enumS,unionS,S3_n,S3_gl,S3_md,S3_rd,u_S3,v_S3]
    refine⟨DrawT.mk (by kernel_rfl),?_⟩
    obtain⟨r4,S4,hL4,q4,hG4⟩:=l_name (S3.adv 8) R ws (i0+3) false (by simp;omega) (by simp[n1,n2,h,S1_n,S1_gl,S1_md,S1_rd,u_S1,S2_n,S2_gl,S2_md,S2_rd,u_S2,n3,n4,n5,n6,e1,typeS,inputS,enumS,unionS,S3_n,S3_gl,S3_md,S3_rd,u_S3,v_S3]) hl (by omega) e4 (by have:=nameB_size e4;omega)
    subst q4
    have S4_n:=hG4.n
    try simp[n1,n2,h,S1_n,S1_gl,S1_md,S1_rd,u_S1,S2_n,S2_gl,S2_md,S2_rd,u_S2,n3,n4,n5,n6,e1,typeS,inputS,enumS,unionS,S3_n,S3_gl,S3_md,S3_rd,u_S3,v_S3] at S4_n
    have S4_gl:=hG4.gl
    try simp[n1,n2,h,S1_n,S1_gl,S1_md,S1_rd,u_S1,S2_n,S2_gl,S2_md,S2_rd,u_S2,n3,n4,n5,n6,e1,typeS,inputS,enumS,unionS,S3_n,S3_gl,S3_md,S3_rd,u_S3,v_S3,S4_n] at S4_gl
    have S4_md:=hG4.md
    try simp[n1,n2,h,S1_n,S1_gl,S1_md,S1_rd,u_S1,S2_n,S2_gl,S2_md,S2_rd,u_S2,n3,n4,n5,n6,e1,typeS,inputS,enumS,unionS,S3_n,S3_gl,S3_md,S3_rd,u_S3,v_S3,S4_n,S4_gl] at S4_md
    have S4_nx:=hG4.nx
    try simp[n1,n2,h,S1_n,S1_gl,S1_md,S1_rd,u_S1,S2_n,S2_gl,S2_md,S2_rd,u_S2,n3,n4,n5,n6,e1,typeS,inputS,enumS,unionS,S3_n,S3_gl,S3_md,S3_rd,u_S3,v_S3,S4_n,S4_gl,S4_md] at S4_nx
    have S4_rd:=hG4.rd
    have u_S4:=hG4.old u (by first | omega | (simp;omega)) (by omega)
    try simp[n1,n2,h,S1_n,S1_gl,S1_md,S1_rd,u_S1,S2_n,S2_gl,S2_md,S2_rd,u_S2,n3,n4,n5,n6,e1,typeS,inputS,enumS,unionS,S3_n,S3_gl,S3_md,S3_rd,u_S3,v_S3,S4_n,S4_gl,S4_md,S4_rd] at u_S4
    have v_S4:=hG4.old v (by first | omega | (simp;omega)) (by omega)
    try simp[n1,n2,h,S1_n,S1_gl,S1_md,S1_rd,u_S1,S2_n,S2_gl,S2_md,S2_rd,u_S2,n3,n4,n5,n6,e1,typeS,inputS,enumS,unionS,S3_n,S3_gl,S3_md,S3_rd,u_S3,v_S3,S4_n,S4_gl,S4_md,S4_rd,u_S4] at v_S4
    have S4_o:∀ y,y<N→y≠R→S4.B y=Sr.B y:=fun y k1 k2=>by
      have a1:=hG4.old y (by first | omega | (simp;omega)) k2
      have y1:¬ y=u:=by omega
      have y2:¬ y=v:=by omega
      try simp[y1,y2] at a1
      exact a1.trans (S3_o y k1 k2)
    have S4_t:∀ y,y<N→S4.T y=Sr.T y:=fun y k1=>by
      have a1:=hG4.T y (by first | omega | (simp;omega))
      try simp at a1
      exact a1.trans (S3_t y k1)
    refine CallT.calm [((1,4),3)] (by kernel_rfl) (by kernel_rfl) hL4 (by simp[n1,n2,h,S1_n,S1_gl,S1_md,S1_rd,u_S1,S2_n,S2_gl,S2_md,S2_rd,u_S2,n3,n4,n5,n6,e1,typeS,inputS,enumS,unionS,S3_n,S3_gl,S3_md,S3_rd,u_S3,v_S3,S4_n,S4_gl,S4_md,S4_rd,u_S4,v_S4,Eh.e,refOf]) ?_
    simp[n1,n2,h,S1_n,S1_gl,S1_md,S1_rd,u_S1,S2_n,S2_gl,S2_md,S2_rd,u_S2,n3,n4,n5,n6,e1,typeS,inputS,enumS,unionS,S3_n,S3_gl,S3_md,S3_rd,u_S3,v_S3,S4_n,S4_gl,S4_md,S4_rd,u_S4,v_S4]
    refine⟨by unfold appBound;omega,?_⟩
    have nv5:¬ v=S3.nx+5:=by omega
    have nu5:¬ u=S3.nx+5:=by omega
    have nR5:¬ R=S3.nx+5:=by omega
    simp[n1,n2,h,S1_n,S1_gl,S1_md,S1_rd,u_S1,S2_n,S2_gl,S2_md,S2_rd,u_S2,n3,n4,n5,n6,e1,typeS,inputS,enumS,unionS,S3_n,S3_gl,S3_md,S3_rd,u_S3,v_S3,S4_n,S4_gl,S4_md,S4_rd,u_S4,v_S4,nv5,nu5,nR5]
    refine LoopT.round (fun E S=>∃ (f:Nat) (i:Nat) (done:List ByteArray) (rest:List ByteArray) (Y:SV),(pAlts ws f i=some (rest,j))∧(done++rest=wd ws (i0+3)::l)∧(S.B R=some (rdC ws i false))∧(AccZ S (v+1) S.nx 1 done.length (txK done) Y)∧(∀ y,y<N→y≠R→S.B y=Sr.B y)∧(∀ y,y<N→S.T y=Sr.T y)∧(v+1≤S.nx)∧(i≤ws.length)∧(S.B u=some [.d (dS ⟨#[]⟩), .d (dI 0), .fl [] 0, .fl [] 0])∧(S.B v=some [.d (dS (wd ws (i0+1))), .d (dI 4), .fl [] 0,Y])∧E 0=some (.op R 0)∧E 2=some (.op u 0)∧E 4=some (.op v 0)) (rdMu R ws.length) ⟨ws.length,i0+4,[wd ws (i0+3)],l, .sk (S3.nx+5) 1 1,by simp[n1,n2,h,S1_n,S1_gl,S1_md,S1_rd,u_S1,S2_n,S2_gl,S2_md,S2_rd,u_S2,n3,n4,n5,n6,e1,typeS,inputS,enumS,unionS,S3_n,S3_gl,S3_md,S3_rd,u_S3,v_S3,S4_n,S4_gl,S4_md,S4_rd,u_S4,v_S4,nv5,nu5,nR5];refine⟨e3,⟨.row (some 1) (S3.nx+5) 1 [.d (.string (wd ws (i0+3)))],rfl,row_sh rfl (by omega), .row (by simp[nv5,Ne.symm nv5]) (by omega) (by omega) (.cons_d .nil) (by simp[varsL,Ld.vars])⟩,fun y k1 k2=>?_,fun y k1=>S4_t y k1,by omega,by omega⟩;rw[if_neg (by omega),if_neg (by omega)];exact S4_o y k1 k2⟩ ?_
    rintro E S hk ⟨f,i,done,rest,Y,hpf,hL,hrd,hA,hrO2,hrT2,hnx,hil,hBu,hBv,h0,h2,h4⟩
    have hn:S.n=82:=by first | (simpa using hk.n)|(have hh:=hk.n;simp[n1,n2,h,S1_n,S1_gl,S1_md,S1_rd,u_S1,S2_n,S2_gl,S2_md,S2_rd,u_S2,n3,n4,n5,n6,e1,typeS,inputS,enumS,unionS,S3_n,S3_gl,S3_md,S3_rd,u_S3,v_S3,S4_n,S4_gl,S4_md,S4_rd,u_S4,v_S4,nv5,nu5,nR5] at hh;exact hh)
    have hg:S.gl=S0.gl:=by first | (simpa using hk.gl)|(have hh:=hk.gl;simp[n1,n2,h,S1_n,S1_gl,S1_md,S1_rd,u_S1,S2_n,S2_gl,S2_md,S2_rd,u_S2,n3,n4,n5,n6,e1,typeS,inputS,enumS,unionS,S3_n,S3_gl,S3_md,S3_rd,u_S3,v_S3,S4_n,S4_gl,S4_md,S4_rd,u_S4,v_S4,nv5,nu5,nR5] at hh;exact hh)
    have hmd:S.md=[1000045,1000059,1000078]:=by first | (simpa using hk.md)|(have hh:=hk.md;simp[n1,n2,h,S1_n,S1_gl,S1_md,S1_rd,u_S1,S2_n,S2_gl,S2_md,S2_rd,u_S2,n3,n4,n5,n6,e1,typeS,inputS,enumS,unionS,S3_n,S3_gl,S3_md,S3_rd,u_S3,v_S3,S4_n,S4_gl,S4_md,S4_rd,u_S4,v_S4,nv5,nu5,nR5] at hh;exact hh)
    simp[n1,n2,h,S1_n,S1_gl,S1_md,S1_rd,u_S1,S2_n,S2_gl,S2_md,S2_rd,u_S2,n3,n4,n5,n6,e1,typeS,inputS,enumS,unionS,S3_n,S3_gl,S3_md,S3_rd,u_S3,v_S3,S4_n,S4_gl,S4_md,S4_rd,u_S4,v_S4,nv5,nu5,nR5,h0,h2,h4,hn,hg,hmd]
    obtain⟨f,rfl⟩:∃ g,f=g+1:=by
      cases f with
      | zero=>cases hpf
      | succ g=>exact⟨g,rfl⟩
    have hle:=pAlts_le hil hpf
    have hdl:done.length≤ws.length:=by
      have:=congrArg List.length hL
      simp at this
      omega
    obtain⟨y1,y2,y3⟩:=hA.one
    refine CallT.l (l_peek (ws:=ws) (i:=i) (bad:=false) (by simp[n1,n2,h,S1_n,S1_gl,S1_md,S1_rd,u_S1,S2_n,S2_gl,S2_md,S2_rd,u_S2,n3,n4,n5,n6,e1,typeS,inputS,enumS,unionS,S3_n,S3_gl,S3_md,S3_rd,u_S3,v_S3,S4_n,S4_gl,S4_md,S4_rd,u_S4,v_S4,nv5,nu5,nR5,h0,h2,h4,hn,hg,hmd,hrd,hBu,hBv,y1,y2,y3]) hl (by omega)) rfl ?_
    rcases pAlts_some hpf with ⟨e5,rfl,rfl⟩ | ⟨e5,e6,r',hpf',rfl⟩
    · skip
      simp[n1,n2,h,S1_n,S1_gl,S1_md,S1_rd,u_S1,S2_n,S2_gl,S2_md,S2_rd,u_S2,n3,n4,n5,n6,e1,typeS,inputS,enumS,unionS,S3_n,S3_gl,S3_md,S3_rd,u_S3,v_S3,S4_n,S4_gl,S4_md,S4_rd,u_S4,v_S4,nv5,nu5,nR5,h0,h2,h4,hn,hg,hmd,hrd,hBu,hBv,y1,y2,y3,e5]
      obtain⟨x,rfl,x2,x3⟩:=hA
      rw[List.append_nil] at hL
      subst hL
      refine⟨[.d (.string (wd ws (i0+1))), .d (.int .i64 4), .nil,x],rfl,by simp[shs,Ld.sh,x2,Def.sz,skT],rfl,rfl,rfl,by simp;omega,by simp[n1,n2,h,S1_n,S1_gl,S1_md,S1_rd,u_S1,S2_n,S2_gl,S2_md,S2_rd,u_S2,n3,n4,n5,n6,e1,typeS,inputS,enumS,unionS,S3_n,S3_gl,S3_md,S3_rd,u_S3,v_S3,S4_n,S4_gl,S4_md,S4_rd,u_S4,v_S4,nv5,nu5,nR5,h0,h2,h4,hn,hg,hmd,hrd,hBu,hBv,y1,y2,y3,e5],?_,?_,?_⟩
      · intro y k1 k2
        have z1:¬ y=u:=by omega
        have z2:¬ y=v:=by omega
        simp[z1,z2]
        exact (hrO2 y (by omega) k2).trans (by rw[hSr])
      · intro y k1
        exact (hrT2 y (by omega)).trans (by rw[hSr])
      · refine .cons_d (.cons_d (.cons_nil ((x3.keep fun b k1 k2=>?_).le (by omega) (by simp))))
        simp[show ¬ b=u by omega]
    · skip
      have he6:=nameB_lt e6
      simp[n1,n2,h,S1_n,S1_gl,S1_md,S1_rd,u_S1,S2_n,S2_gl,S2_md,S2_rd,u_S2,n3,n4,n5,n6,e1,typeS,inputS,enumS,unionS,S3_n,S3_gl,S3_md,S3_rd,u_S3,v_S3,S4_n,S4_gl,S4_md,S4_rd,u_S4,v_S4,nv5,nu5,nR5,h0,h2,h4,hn,hg,hmd,hrd,hBu,hBv,y1,y2,y3,e5]
      refine CallT.x (l_next _ R ws i false (by simp;omega) (by simp[n1,n2,h,S1_n,S1_gl,S1_md,S1_rd,u_S1,S2_n,S2_gl,S2_md,S2_rd,u_S2,n3,n4,n5,n6,e1,typeS,inputS,enumS,unionS,S3_n,S3_gl,S3_md,S3_rd,u_S3,v_S3,S4_n,S4_gl,S4_md,S4_rd,u_S4,v_S4,nv5,nu5,nR5,h0,h2,h4,hn,hg,hmd,hrd,hBu,hBv,y1,y2,y3,e5]) hl (by omega)) rfl (fun r5 S5 hh=>?_)
      obtain⟨q5,hG5⟩:=hh
      subst q5
      have S5_n:=hG5.n
      try simp[n1,n2,h,S1_n,S1_gl,S1_md,S1_rd,u_S1,S2_n,S2_gl,S2_md,S2_rd,u_S2,n3,n4,n5,n6,e1,typeS,inputS,enumS,unionS,S3_n,S3_gl,S3_md,S3_rd,u_S3,v_S3,S4_n,S4_gl,S4_md,S4_rd,u_S4,v_S4,nv5,nu5,nR5,h0,h2,h4,hn,hg,hmd,hrd,hBu,hBv,y1,y2,y3,e5] at S5_n
      have S5_gl:=hG5.gl
      try simp[n1,n2,h,S1_n,S1_gl,S1_md,S1_rd,u_S1,S2_n,S2_gl,S2_md,S2_rd,u_S2,n3,n4,n5,n6,e1,typeS,inputS,enumS,unionS,S3_n,S3_gl,S3_md,S3_rd,u_S3,v_S3,S4_n,S4_gl,S4_md,S4_rd,u_S4,v_S4,nv5,nu5,nR5,h0,h2,h4,hn,hg,hmd,hrd,hBu,hBv,y1,y2,y3,e5,S5_n] at S5_gl
      have S5_md:=hG5.md
      try simp[n1,n2,h,S1_n,S1_gl,S1_md,S1_rd,u_S1,S2_n,S2_gl,S2_md,S2_rd,u_S2,n3,n4,n5,n6,e1,typeS,inputS,enumS,unionS,S3_n,S3_gl,S3_md,S3_rd,u_S3,v_S3,S4_n,S4_gl,S4_md,S4_rd,u_S4,v_S4,nv5,nu5,nR5,h0,h2,h4,hn,hg,hmd,hrd,hBu,hBv,y1,y2,y3,e5,S5_n,S5_gl] at S5_md
      have S5_nx:=hG5.nx
      try simp[n1,n2,h,S1_n,S1_gl,S1_md,S1_rd,u_S1,S2_n,S2_gl,S2_md,S2_rd,u_S2,n3,n4,n5,n6,e1,typeS,inputS,enumS,unionS,S3_n,S3_gl,S3_md,S3_rd,u_S3,v_S3,S4_n,S4_gl,S4_md,S4_rd,u_S4,v_S4,nv5,nu5,nR5,h0,h2,h4,hn,hg,hmd,hrd,hBu,hBv,y1,y2,y3,e5,S5_n,S5_gl,S5_md] at S5_nx
      have S5_rd:=hG5.rd
      have u_S5:=hG5.old u (by first | omega | (simp;omega)) (by omega)
      try simp[n1,n2,h,S1_n,S1_gl,S1_md,S1_rd,u_S1,S2_n,S2_gl,S2_md,S2_rd,u_S2,n3,n4,n5,n6,e1,typeS,inputS,enumS,unionS,S3_n,S3_gl,S3_md,S3_rd,u_S3,v_S3,S4_n,S4_gl,S4_md,S4_rd,u_S4,v_S4,nv5,nu5,nR5,h0,h2,h4,hn,hg,hmd,hrd,hBu,hBv,y1,y2,y3,e5,S5_n,S5_gl,S5_md,S5_rd] at u_S5
      have v_S5:=hG5.old v (by first | omega | (simp;omega)) (by omega)
      try simp[n1,n2,h,S1_n,S1_gl,S1_md,S1_rd,u_S1,S2_n,S2_gl,S2_md,S2_rd,u_S2,n3,n4,n5,n6,e1,typeS,inputS,enumS,unionS,S3_n,S3_gl,S3_md,S3_rd,u_S3,v_S3,S4_n,S4_gl,S4_md,S4_rd,u_S4,v_S4,nv5,nu5,nR5,h0,h2,h4,hn,hg,hmd,hrd,hBu,hBv,y1,y2,y3,e5,S5_n,S5_gl,S5_md,S5_rd,u_S5] at v_S5
      have S5_o:∀ y,y<N→y≠R→S5.B y=Sr.B y:=fun y k1 k2=>by
        have a1:=hG5.old y (by first | omega | (simp;omega)) k2
        have y1:¬ y=u:=by omega
        have y2:¬ y=v:=by omega
        try simp[y1,y2] at a1
        exact a1.trans (hrO2 y k1 k2)
      have S5_t:∀ y,y<N→S5.T y=Sr.T y:=fun y k1=>by
        have a1:=hG5.T y (by first | omega | (simp;omega))
        try simp at a1
        exact a1.trans (hrT2 y k1)
      simp[n1,n2,h,S1_n,S1_gl,S1_md,S1_rd,u_S1,S2_n,S2_gl,S2_md,S2_rd,u_S2,n3,n4,n5,n6,e1,typeS,inputS,enumS,unionS,S3_n,S3_gl,S3_md,S3_rd,u_S3,v_S3,S4_n,S4_gl,S4_md,S4_rd,u_S4,v_S4,nv5,nu5,nR5,h0,h2,h4,hn,hg,hmd,hrd,hBu,hBv,y1,y2,y3,e5,S5_n,S5_gl,S5_md,S5_rd,u_S5,v_S5]
      refine⟨DrawT.mk (by kernel_rfl),?_⟩
      obtain⟨r6,S6,hL6,q6,hG6⟩:=l_name (S5.adv 8) R ws (i+1) false (by simp;omega) (by simp[n1,n2,h,S1_n,S1_gl,S1_md,S1_rd,u_S1,S2_n,S2_gl,S2_md,S2_rd,u_S2,n3,n4,n5,n6,e1,typeS,inputS,enumS,unionS,S3_n,S3_gl,S3_md,S3_rd,u_S3,v_S3,S4_n,S4_gl,S4_md,S4_rd,u_S4,v_S4,nv5,nu5,nR5,h0,h2,h4,hn,hg,hmd,hrd,hBu,hBv,y1,y2,y3,e5,S5_n,S5_gl,S5_md,S5_rd,u_S5,v_S5]) hl (by omega) e6 (by have:=nameB_size e6;omega)
      subst q6
      have S6_n:=hG6.n
      try simp[n1,n2,h,S1_n,S1_gl,S1_md,S1_rd,u_S1,S2_n,S2_gl,S2_md,S2_rd,u_S2,n3,n4,n5,n6,e1,typeS,inputS,enumS,unionS,S3_n,S3_gl,S3_md,S3_rd,u_S3,v_S3,S4_n,S4_gl,S4_md,S4_rd,u_S4,v_S4,nv5,nu5,nR5,h0,h2,h4,hn,hg,hmd,hrd,hBu,hBv,y1,y2,y3,e5,S5_n,S5_gl,S5_md,S5_rd,u_S5,v_S5] at S6_n
      have S6_gl:=hG6.gl
      try simp[n1,n2,h,S1_n,S1_gl,S1_md,S1_rd,u_S1,S2_n,S2_gl,S2_md,S2_rd,u_S2,n3,n4,n5,n6,e1,typeS,inputS,enumS,unionS,S3_n,S3_gl,S3_md,S3_rd,u_S3,v_S3,S4_n,S4_gl,S4_md,S4_rd,u_S4,v_S4,nv5,nu5,nR5,h0,h2,h4,hn,hg,hmd,hrd,hBu,hBv,y1,y2,y3,e5,S5_n,S5_gl,S5_md,S5_rd,u_S5,v_S5,S6_n] at S6_gl
      have S6_md:=hG6.md
      try simp[n1,n2,h,S1_n,S1_gl,S1_md,S1_rd,u_S1,S2_n,S2_gl,S2_md,S2_rd,u_S2,n3,n4,n5,n6,e1,typeS,inputS,enumS,unionS,S3_n,S3_gl,S3_md,S3_rd,u_S3,v_S3,S4_n,S4_gl,S4_md,S4_rd,u_S4,v_S4,nv5,nu5,nR5,h0,h2,h4,hn,hg,hmd,hrd,hBu,hBv,y1,y2,y3,e5,S5_n,S5_gl,S5_md,S5_rd,u_S5,v_S5,S6_n,S6_gl] at S6_md
      have S6_nx:=hG6.nx
      try simp[n1,n2,h,S1_n,S1_gl,S1_md,S1_rd,u_S1,S2_n,S2_gl,S2_md,S2_rd,u_S2,n3,n4,n5,n6,e1,typeS,inputS,enumS,unionS,S3_n,S3_gl,S3_md,S3_rd,u_S3,v_S3,S4_n,S4_gl,S4_md,S4_rd,u_S4,v_S4,nv5,nu5,nR5,h0,h2,h4,hn,hg,hmd,hrd,hBu,hBv,y1,y2,y3,e5,S5_n,S5_gl,S5_md,S5_rd,u_S5,v_S5,S6_n,S6_gl,S6_md] at S6_nx
      have S6_rd:=hG6.rd
      have u_S6:=hG6.old u (by first | omega | (simp;omega)) (by omega)
      try simp[n1,n2,h,S1_n,S1_gl,S1_md,S1_rd,u_S1,S2_n,S2_gl,S2_md,S2_rd,u_S2,n3,n4,n5,n6,e1,typeS,inputS,enumS,unionS,S3_n,S3_gl,S3_md,S3_rd,u_S3,v_S3,S4_n,S4_gl,S4_md,S4_rd,u_S4,v_S4,nv5,nu5,nR5,h0,h2,h4,hn,hg,hmd,hrd,hBu,hBv,y1,y2,y3,e5,S5_n,S5_gl,S5_md,S5_rd,u_S5,v_S5,S6_n,S6_gl,S6_md,S6_rd] at u_S6
      have v_S6:=hG6.old v (by first | omega | (simp;omega)) (by omega)
      try simp[n1,n2,h,S1_n,S1_gl,S1_md,S1_rd,u_S1,S2_n,S2_gl,S2_md,S2_rd,u_S2,n3,n4,n5,n6,e1,typeS,inputS,enumS,unionS,S3_n,S3_gl,S3_md,S3_rd,u_S3,v_S3,S4_n,S4_gl,S4_md,S4_rd,u_S4,v_S4,nv5,nu5,nR5,h0,h2,h4,hn,hg,hmd,hrd,hBu,hBv,y1,y2,y3,e5,S5_n,S5_gl,S5_md,S5_rd,u_S5,v_S5,S6_n,S6_gl,S6_md,S6_rd,u_S6] at v_S6
      have S6_o:∀ y,y<N→y≠R→S6.B y=Sr.B y:=fun y k1 k2=>by
        have a1:=hG6.old y (by first | omega | (simp;omega)) k2
        have y1:¬ y=u:=by omega
        have y2:¬ y=v:=by omega
        try simp[y1,y2] at a1
        exact a1.trans (S5_o y k1 k2)
      have S6_t:∀ y,y<N→S6.T y=Sr.T y:=fun y k1=>by
        have a1:=hG6.T y (by first | omega | (simp;omega))
        try simp at a1
        exact a1.trans (S5_t y k1)
      refine CallT.calm [((1,4),3)] (by kernel_rfl) (by kernel_rfl) hL6 ?_ ?_
      · simp[n1,n2,h,S1_n,S1_gl,S1_md,S1_rd,u_S1,S2_n,S2_gl,S2_md,S2_rd,u_S2,n3,n4,n5,n6,e1,typeS,inputS,enumS,unionS,S3_n,S3_gl,S3_md,S3_rd,u_S3,v_S3,S4_n,S4_gl,S4_md,S4_rd,u_S4,v_S4,nv5,nu5,nR5,h0,h2,h4,hn,hg,hmd,hrd,hBu,hBv,y1,y2,y3,e5,S5_n,S5_gl,S5_md,S5_rd,u_S5,v_S5,S6_n,S6_gl,S6_md,S6_rd,u_S6,v_S6,Eh.e,refOf]
      simp[n1,n2,h,S1_n,S1_gl,S1_md,S1_rd,u_S1,S2_n,S2_gl,S2_md,S2_rd,u_S2,n3,n4,n5,n6,e1,typeS,inputS,enumS,unionS,S3_n,S3_gl,S3_md,S3_rd,u_S3,v_S3,S4_n,S4_gl,S4_md,S4_rd,u_S4,v_S4,nv5,nu5,nR5,h0,h2,h4,hn,hg,hmd,hrd,hBu,hBv,y1,y2,y3,e5,S5_n,S5_gl,S5_md,S5_rd,u_S5,v_S5,S6_n,S6_gl,S6_md,S6_rd,u_S6,v_S6]
      refine OpT_addZ2 (e:=9) (by_:=16) (lo2:=S.nx) (hi2:=S.nx) [.d (.string (wd ws (i+1)))] (by kernel_rfl) hA (txK_len _) (by unfold appBound;omega) rfl rfl (by omega) (by omega) (by omega) (by omega) ?_ (.cons_d .nil) ?_
      · intro b k1 k2
        have o6:=hG6.old b (by simp;omega) (by omega)
        have o5:=hG5.old b (by simp;omega) (by omega)
        simp at o6 o5
        exact o6.trans o5
      · intro X9 S9 E9 hE9 hA9 hB9 hs9
        rw[hE9]
        have S9_n:=hs9.n
        have S9_gl:=hs9.gl
        have S9_md:=hs9.md
        have S9_nx:=hs9.nx
        have S9_R:=hB9 R (.inl (by omega)) (by omega)
        have S9_u:=hB9 u (.inl (by omega)) (by omega)
        have S9_v:=hB9 v (.inl (by omega)) (by omega)
        simp[n1,n2,h,S1_n,S1_gl,S1_md,S1_rd,u_S1,S2_n,S2_gl,S2_md,S2_rd,u_S2,n3,n4,n5,n6,e1,typeS,inputS,enumS,unionS,S3_n,S3_gl,S3_md,S3_rd,u_S3,v_S3,S4_n,S4_gl,S4_md,S4_rd,u_S4,v_S4,nv5,nu5,nR5,h0,h2,h4,hn,hg,hmd,hrd,hBu,hBv,y1,y2,y3,e5,S5_n,S5_gl,S5_md,S5_rd,u_S5,v_S5,S6_n,S6_gl,S6_md,S6_rd,u_S6,v_S6] at S9_n S9_gl S9_md S9_nx S9_R S9_u S9_v
        obtain⟨z1,z2,z3⟩:=hA9.one
        simp[n1,n2,h,S1_n,S1_gl,S1_md,S1_rd,u_S1,S2_n,S2_gl,S2_md,S2_rd,u_S2,n3,n4,n5,n6,e1,typeS,inputS,enumS,unionS,S3_n,S3_gl,S3_md,S3_rd,u_S3,v_S3,S4_n,S4_gl,S4_md,S4_rd,u_S4,v_S4,nv5,nu5,nR5,h0,h2,h4,hn,hg,hmd,hrd,hBu,hBv,y1,y2,y3,e5,S5_n,S5_gl,S5_md,S5_rd,u_S5,v_S5,S6_n,S6_gl,S6_md,S6_rd,u_S6,v_S6,S9_n,S9_gl,S9_md,S9_R,S9_u,S9_v,z1,z2,z3]
        refine⟨⟨f,i+2,done++[wd ws (i+1)],r',hpf',by simpa using hL,by omega,X9,?_,?_,?_,by omega,by omega,rfl⟩,rdMu_lt hrd (j:=i+2) (b':=false) (by simp[n1,n2,h,S1_n,S1_gl,S1_md,S1_rd,u_S1,S2_n,S2_gl,S2_md,S2_rd,u_S2,n3,n4,n5,n6,e1,typeS,inputS,enumS,unionS,S3_n,S3_gl,S3_md,S3_rd,u_S3,v_S3,S4_n,S4_gl,S4_md,S4_rd,u_S4,v_S4,nv5,nu5,nR5,h0,h2,h4,hn,hg,hmd,hrd,hBu,hBv,y1,y2,y3,e5,S5_n,S5_gl,S5_md,S5_rd,u_S5,v_S5,S6_n,S6_gl,S6_md,S6_rd,u_S6,v_S6,S9_n,S9_gl,S9_md,S9_R,S9_u,S9_v,z1,z2,z3]) (by omega) (by omega)⟩
        · rw[txK_add]
          have h9:=hA9.keep (S':=S9.set v [.d (dS (wd ws (i0+1))), .d (dI 4), .fl [] 0,X9]) (lo':=v+1) (hi':=S9.nx) (fun b k1 k2=>by simp[show ¬ b=v by omega]) (Nat.le_refl _) (by omega)
          simpa[shs,Ld.sh] using h9
        · intro y k1 k2
          have z1:¬ y=v:=by omega
          have a9:=hB9 y (.inl (by omega)) (by omega)
          rw[if_neg z1,a9]
          exact S6_o y k1 k2
        · intro y k1
          have a9:=congrFun hs9.T y
          rw[a9]
          exact S6_t y k1
abbrev noS:ByteArray:=⟨#[]⟩
def typB:Typ→Nat→Bool
  | _,0=>false
  | .mk t l _,d+1=>if t=noS then (match l with | [x]=>typB x d | _=>false) else nameB t&&decide (l.length=0)
set_option maxHeartbeats 1000000 in
theorem p_typeFormIn (v:Typ) (hv:TLe 4611686018427387904 v) (d:Nat) (hd:d≤1000000):PCall Tryz.prog gl 171 [v.d,dI d] (dB (typB v d)):=by
  match v,d,hv with
  | v,0,_ =>
    cases v with
    | mk t l b =>
    refine PCall.by_ (md:=[]) Tryz.func171 rfl (by kernel_rfl) (n:=32) Tryz.ntmps171 (by simp) (by decide) rfl ?_
    simp[Typ.cells,typB]
  | .mk t l b,d+1, .mk ht hl hwf =>
    have ih:∀ x,l=[x]→PCall Tryz.prog gl 171 [x.d,dI d] (dB (typB x d)):=fun x e=>p_typeFormIn x (hwf x (by simp[e])) d (by omega)
    refine PCall.by_ (md:=[]) Tryz.func171 rfl (by kernel_rfl) (n:=32) Tryz.ntmps171 (by simp) (by decide) rfl ?_
    have w0:IntKind.i64.wrap (d:Int)=d:=wrap64 (by omega) (by omega)
    have h1:¬ ((d:Int)+1<1):=by omega
    simp[Typ.cells,typB,w0,h1]
    by_cases ht0:t=noS
    · subst ht0
      simp[Typ.cells,typB,w0,h1]
      match l,ih with
      | [],_=>simp[Typ.cells,typB,w0,h1]
      | [x],ih =>
        simp[Typ.cells,typB,w0,h1,typsCells,tcells_len]
        repeat refine⟨DrawT.mk (by kernel_rfl),?_⟩
        refine CallT.p0 (ih x rfl) (by first | rfl | (simp;done)|(simp[Typ.cells,typB,w0,h1,typsCells,tcells_len];done)) (by first | rfl | (simp;done)|(simp;rfl)|(simp[Typ.cells,typB,w0,h1,typsCells,tcells_len];done)) ?_
        simp[Typ.cells,typB,w0,h1,typsCells,tcells_len]
      | x::y::r,_ =>
        have hr:¬ ((r.length:Int)+1+1=1):=by omega
        simp[Typ.cells,typB,w0,h1,hr]
    · have ht1:¬ t=⟨#[]⟩:=ht0
      have hq:typB (.mk t l b) (d+1)=(nameB t&&decide (l.length=0)):=by unfold typB;rw[if_neg ht0]
      simp[Typ.cells,typB,w0,h1,ht0,ht1,hq]
      repeat refine⟨DrawT.mk (by kernel_rfl),?_⟩
      refine CallT.p0 (p_isName t ht) (by first | rfl | (simp;done)|(simp[Typ.cells,typB,w0,h1,ht0,ht1,hq];done)) (by first | rfl | (simp;done)|(simp;rfl)|(simp[Typ.cells,typB,w0,h1,ht0,ht1,hq];done)) ?_
      simp[Typ.cells,typB,w0,h1,ht0,ht1,hq]
      refine BrT.mk (fun hn2=>?_) (fun hn2=>?_)
      · simp[Typ.cells,typB,w0,h1,ht0,ht1,hq,hn2]
      · simp[Typ.cells,typB,w0,h1,ht0,ht1,hq,hn2]
  termination_by d
theorem p_typeForm (v:Typ) (hv:TLe 4611686018427387904 v):PCall Tryz.prog gl 76 [v.d] (dB (typB v 3)):=by
  have h:=p_typeFormIn (gl:=gl) v hv 3 (by omega)
  refine PCall.by_ (md:=[]) Tryz.func76 rfl (by kernel_rfl) (n:=5) Tryz.ntmps76 (by simp) (by decide) rfl ?_
  simp[tcells_len]
  repeat refine⟨DrawT.mk (by kernel_rfl),?_⟩
  refine CallT.p0 (h) (by first | rfl | (simp;done)|(simp[tcells_len];done)) (by first | rfl | (simp;done)|(simp;rfl)|(simp[tcells_len];done)) ?_
  simp[tcells_len]
def groundB (s:ByteArray):Bool:=decide (s=⟨#[73,110,116]⟩) || decide (s=⟨#[83,116,114,105,110,103]⟩) || decide (s=⟨#[66,111,111,108,101,97,110]⟩) || decide (s=⟨#[73,68]⟩)
theorem p_isGround (s:ByteArray):PCall Tryz.prog gl 154 [dS s] (dB (groundB s)):=by
  refine PCall.by_ (md:=[]) Tryz.func154 rfl (by kernel_rfl) (n:=17) Tryz.ntmps154 (by simp) (by decide) rfl ?_
  simp
  repeat' first
    | (refine BrT.dec (fun h=>?_) (fun h=>?_)<;>simp[h])
  all_goals (unfold groundB;simp[*])
def baseT:Typ→ByteArray
  | .mk t l _=>if t=noS then (match l with | x::_=>baseT x | []=>noS) else t
def isZero:Val→Bool
  | .mk k n t l ns=>decide (k=0)&&decide (n=0)&&decide (t=noS)&&decide (l.length=0)&&decide (ns.length=0)
theorem isZero_iff {v:Val}:isZero v=true↔v=.mk 0 0 noS [] []:=by
  cases v with
  | mk k n t l ns =>
    simp[isZero,and_assoc]
set_option maxHeartbeats 1000000 in
theorem p_sameTop0 (v:Val) (hv:WF v):PCall Tryz.prog gl 320 [v.d,(Val.mk 0 0 noS [] []).d] (dB (isZero v)):=by
  cases hv with
  | mk ht hn hl hwf =>
    rename_i k n t l ns
    have heq:ns.length=0→PCall Tryz.prog gl 343 [namesD ns,namesD []] (dB true):=fun h=>by
      have:=List.eq_nil_of_length_eq_zero h
      subst this
      refine PCall.by_ (md:=[]) Tryz.func343 rfl (by kernel_rfl) (n:=26) Tryz.ntmps343 (by simp) (by decide) rfl ?_
      simp
      refine LoopT.rounds 1 ?_
      simp[RndT_succ]
    have hne:¬ ns.length=0→PCall Tryz.prog gl 343 [namesD ns,namesD []] (dB false):=fun h=>by
      refine PCall.by_ (md:=[]) Tryz.func343 rfl (by kernel_rfl) (n:=26) Tryz.ntmps343 (by simp) (by decide) rfl ?_
      have h1:¬ ((ns.length:Int)=0):=by omega
      simp[h1,h]
    refine PCall.by_ (md:=[]) Tryz.func320 rfl (by kernel_rfl) (n:=40) Tryz.ntmps320 (by simp) (by decide) rfl ?_
    simp[Val.cells,valsCells,isZero]
    refine BrT.dec (fun c0=>?_) (fun c0=>?_)
    case refine_2=>simp[Val.cells,valsCells,isZero,c0]
    simp[Val.cells,valsCells,isZero,c0]
    refine BrT.dec (fun c1=>?_) (fun c1=>?_)
    case refine_2=>simp[Val.cells,valsCells,isZero,c0,c1]
    simp[Val.cells,valsCells,isZero,c0,c1]
    refine BrT.dec (fun c2=>?_) (fun c2=>?_)
    case refine_2=>simp[Val.cells,valsCells,isZero,c0,c1,c2]
    simp[Val.cells,valsCells,isZero,c0,c1,c2]
    refine BrT.dec (fun c3=>?_) (fun c3=>?_)
    case refine_2=>simp[Val.cells,valsCells,isZero,c0,c1,c2,c3]
    simp[Val.cells,valsCells,isZero,c0,c1,c2,c3]
    by_cases h:ns.length=0
    · repeat refine⟨DrawT.mk (by kernel_rfl),?_⟩
      refine CallT.p0 (heq h) (by first | rfl | (simp;done)|(simp[Val.cells,valsCells,isZero,c0,c1,c2,c3];done)) (by first | rfl | (simp;done)|(simp;rfl)|(simp[Val.cells,valsCells,isZero,c0,c1,c2,c3];done)) ?_
      simp[Val.cells,valsCells,isZero,c0,c1,c2,c3]
      exact List.eq_nil_of_length_eq_zero h
    · repeat refine⟨DrawT.mk (by kernel_rfl),?_⟩
      refine CallT.p0 (hne h) (by first | rfl | (simp;done)|(simp[Val.cells,valsCells,isZero,c0,c1,c2,c3];done)) (by first | rfl | (simp;done)|(simp;rfl)|(simp[Val.cells,valsCells,isZero,c0,c1,c2,c3];done)) ?_
      simp[Val.cells,valsCells,isZero,c0,c1,c2,c3]
      exact fun e=>h (by rw[e];rfl)
set_option maxHeartbeats 1000000 in
theorem p_same0 (v:Val) (hv:WF v):PCall Tryz.prog gl 279 [v.d,(Val.mk 0 0 noS [] []).d] (dB (isZero v)):=by
  have hs:=p_sameTop0 (gl:=gl) v hv
  have hz:isZero v=true→v=.mk 0 0 noS [] []:=isZero_iff.1
  cases v with
  | mk k n t l ns =>
  generalize isZero (.mk k n t l ns)=z at hs hz ⊢
  refine PCall.by_ (md:=[16]) Tryz.func279 rfl (by kernel_rfl) (n:=85) Tryz.ntmps279 (by simp) (by decide) rfl ?_
  simp[Val.cells,valsCells]
  refine LoopT.rounds 2 ?_
  simp[Val.cells,valsCells,RndT_succ]
  repeat refine⟨DrawT.mk (by kernel_rfl),?_⟩
  refine CallT.p0 (hs) (by first | rfl | (simp;done)|(simp[Val.cells,valsCells,RndT_succ];done)) (by first | rfl | (simp;done)|(simp;rfl)|(simp[Val.cells,valsCells,RndT_succ];done)) ?_
  simp[Val.cells,valsCells,RndT_succ]
  cases z with
  | false=>simp[Val.cells,valsCells,RndT_succ]
  | true =>
    obtain⟨rfl,rfl,rfl,rfl,rfl⟩:=Val.mk.inj (hz rfl)
    simp[Val.cells,valsCells,RndT_succ]
def elseB (has:Bool) (v:Val):Bool:=if has=true then okB v 3 true else isZero v
theorem p_elseForm (has:Bool) (v:Val) (hv:WF v):PCall Tryz.prog gl 226 [dB has,v.d] (dB (elseB has v)):=by
  refine PCall.by_ (md:=[]) Tryz.func226 rfl (by kernel_rfl) (n:=12) Tryz.ntmps226 (by simp) (by decide) rfl ?_
  simp[elseB,cells_len]
  cases has with
  | false =>
    simp[elseB,cells_len]
    repeat refine⟨DrawT.mk (by kernel_rfl),?_⟩
    refine CallT.p0 (p_same0 v hv) (by first | rfl | (simp;done)|(simp[elseB,cells_len];done)) (by first | rfl | (simp;done)|(simp;rfl)|(simp[elseB,cells_len];done)) ?_
    simp[elseB,cells_len]
  | true =>
    simp[elseB,cells_len]
    repeat refine⟨DrawT.mk (by kernel_rfl),?_⟩
    refine CallT.p0 (p_fitsIn v hv 3 true (by omega) (by omega)) (by first | rfl | (simp;done)|(simp[elseB,cells_len];done)) (by first | rfl | (simp;done)|(simp;rfl)|(simp[elseB,cells_len];done)) ?_
    simp[elseB,cells_len]
def argB (a:Arg):Bool:=typB a.ty 3&&elseB a.has a.els
abbrev anames (l:List Arg):List ByteArray:=l.map Arg.name
def argsB (l:List Arg):Bool:=decide (l.length≤4)&&(l.all argB&&onceB (anames l))
theorem all_take {α:Type}{p:α→Bool}{l:List α}{i:Nat} (hi:i<l.length) (h:(l.take i).all p=true) (hp:p l[i]=true):(l.take (i+1)).all p=true:=by
  rw[List.take_succ_eq_append_getElem hi,List.all_append,h];simp[hp]
theorem all_bad {α:Type}{p:α→Bool}{l:List α}{i:Nat} (hi:i<l.length) (hp:p l[i]=false):l.all p=false:=by
  cases h:l.all p with
  | false=>rfl
  | true=>rw[List.all_eq_true.1 h _ (List.getElem_mem hi)] at hp;cases hp
def accN {α:Type} (f:α→ByteArray) (l:List α) (i:Nat):List D:=((l.take i).map f).map dS
theorem accN_next {α:Type} (f:α→ByteArray) (l:List α) {i:Nat} (hi:i<l.length):accN f l (i+1)=accN f l i++[dS (f l[i])]:=by
  unfold accN
  rw[List.take_succ_eq_append_getElem hi,List.map_append,List.map_append];rfl
@[simp] theorem accN_zero {α:Type} (f:α→ByteArray) (l:List α):accN f l 0=[]:=rfl
theorem accN_len {α:Type} (f:α→ByteArray) (l:List α) {i:Nat} (hi:i≤l.length):(accN f l i).length=i:=by simp[accN];omega
theorem accN_all {α:Type} (f:α→ByteArray) (l:List α):accN f l l.length=(l.map f).map dS:=by simp[accN]
def allUp {α:Type} (p:α→Bool) (l:List α) (i:Nat):Prop:=(l.take i).all p=true
theorem allUp_zero {α:Type} (p:α→Bool) (l:List α):allUp p l 0:=rfl
theorem allUp_all {α:Type}{p:α→Bool}{l:List α} (h:allUp p l l.length):l.all p=true:=by
  unfold allUp at h
  rwa [List.take_length] at h
theorem AccD.snoc {α:Type}{f:α→ByteArray}{l:List α}{S S':St}{i q:Nat} (hi:i<l.length) (hq:q<S'.nx) (hT:S'.T q=some (i+1,1)) {x:ByteArray} (hx:x=f l[i]):AccD 1 S' (.tp q 0 (accN f l i++[dS x]) (i+1)) (accN f l (i+1)) (i+1):=by
  subst hx
  exact .inr ⟨by omega,q,hq,by rw[accN_next f l hi],hT⟩
theorem AccD.names {α:Type}{f:α→ByteArray}{l:List α}{S:St}{X:SV} (h:AccD 1 S X (accN f l l.length) l.length):X.toD=some (namesD (l.map f)):=by
  have e:(l.map f).length=l.length:=List.length_map ..
  rcases h with ⟨h1,h2,rfl⟩ | ⟨h0,q,hq,rfl,hT⟩
  · have:l=[]:=List.eq_nil_of_length_eq_zero h1
    subst this;rfl
  · simp only[SV.toD,accN_all,namesD,e]
set_option maxHeartbeats 2000000 in
theorem p_argsForm (l:List Arg) (hl:l.length≤4611686018427387904) (hok:∀ a∈l,ArgOk a):PCall Tryz.prog gl 239 [argsD l] (dB (argsB l)):=by
  refine PCall.by_ (md:=[]) Tryz.func239 rfl (by kernel_rfl) (n:=36) Tryz.ntmps239 (by simp) (by decide) rfl ?_
  simp
  refine BrT.dec (fun c0=>?_) (fun c0=>?_)
  · have:argsB l=false:=by simp[argsB];intro h;omega
    simp[c0,this]
  have hl4:l.length≤4:=by omega
  have hb:argsB l=(l.all argB&&onceB (anames l)):=by simp[argsB,hl4]
  simp[c0]
  refine LoopT.round (fun E S=>∃ (i:Nat) (X:SV),(i≤l.length)∧E 3=some (X)∧E 10=some (.d (argsD l))∧E 11=some (.d (dI l.length))∧E 12=some (.d (dI i))∧(AccD 1 S X (accN Arg.name l i) i)∧(allUp argB l i)) (upTo 12 l.length) ⟨0, .fl [] 0,by simp[c0];exact⟨AccD.nil,allUp_zero _ _⟩⟩ ?_
  rintro E S hk ⟨i,X,hi,h3,h10,h11,h12,hA,hp⟩
  have hn:S.n=36:=by first | (simpa using hk.n)|(have hh:=hk.n;simp[c0] at hh;exact hh)
  have hg:S.gl=gl:=by first | (simpa using hk.gl)|(have hh:=hk.gl;simp[c0] at hh;exact hh)
  have hmd:S.md=[]:=by first | (simpa using hk.md)|(have hh:=hk.md;simp[c0] at hh;exact hh)
  simp[c0,h3,h10,h11,h12,hn,hg,hmd]
  have w:=wrap64 (n:=(i:Int)+1) (by omega) (by omega)
  refine BrT.dec (fun c=>?_) (fun c=>?_)
  · have hi2:i<l.length:=by omega
    have hlen:=args_len l
    have hfit:i*10+10≤l.length*10:=by omega
    have hN:=hok _ (List.getElem_mem hi2)
    have bad:=all_bad (p:=argB) hi2
    have good:=all_take (p:=argB) hi2 hp
    have hat:=args_at l hi2
    have hcl:=accN_len Arg.name l hi
    obtain⟨x,hx⟩:∃ x,l[i].name=x:=⟨_,rfl⟩
    have hsn:=fun S' q h1 h2=>AccD.snoc (f:=Arg.name) (l:=l) (S:=S) (S':=S') (i:=i) (q:=q) hi2 h1 h2 hx.symm
    generalize hav:l[i]=a at hN bad good hat hx
    have hT:=p_typeForm (gl:=gl) a.ty hN.2.1
    have hE:=p_elseForm (gl:=gl) a.has a.els hN.2.2
    have hab:argB a=(typB a.ty 3&&elseB a.has a.els):=rfl
    obtain⟨nm,ty,has,els⟩:=a
    cases ty with
    | mk t lt b =>
    cases els with
    | mk k n t2 l2 ns =>
    simp only[Arg.cells,Typ.cells,Val.cells,List.cons_append,List.nil_append] at hat
    simp[c0,h3,h10,h11,h12,hn,hg,hmd,c,hi2,w,hlen,hfit,hat]
    repeat refine⟨DrawT.mk (by kernel_rfl),?_⟩
    refine CallT.p0 (hT) (by first | rfl | (simp;done)|(simp[c0,h3,h10,h11,h12,hn,hg,hmd,c,hi2,w,hlen,hfit,hat];done)) (by first | rfl | (simp;done)|(simp;rfl)|(simp[c0,h3,h10,h11,h12,hn,hg,hmd,c,hi2,w,hlen,hfit,hat];done)) ?_
    simp[c0,h3,h10,h11,h12,hn,hg,hmd,c,hi2,w,hlen,hfit,hat]
    simp only at hab
    refine BrT.mk (fun c1=>?_) (fun c1=>?_)
    case refine_2=>(have hq:=bad (by rw[hab,c1];rfl);simp[c0,h3,h10,h11,h12,hn,hg,hmd,c,hi2,w,hlen,hfit,hat,c1,hb,hq])
    simp[c0,h3,h10,h11,h12,hn,hg,hmd,c,hi2,w,hlen,hfit,hat,c1]
    repeat refine⟨DrawT.mk (by kernel_rfl),?_⟩
    refine CallT.p0 (hE) (by first | rfl | (simp;done)|(simp[c0,h3,h10,h11,h12,hn,hg,hmd,c,hi2,w,hlen,hfit,hat,c1];done)) (by first | rfl | (simp;done)|(simp;rfl)|(simp[c0,h3,h10,h11,h12,hn,hg,hmd,c,hi2,w,hlen,hfit,hat,c1];done)) ?_
    simp[c0,h3,h10,h11,h12,hn,hg,hmd,c,hi2,w,hlen,hfit,hat,c1]
    refine BrT.mk (fun c2=>?_) (fun c2=>?_)
    case refine_2=>(have hq:=bad (by rw[hab,c2,Bool.and_false]);simp[c0,h3,h10,h11,h12,hn,hg,hmd,c,hi2,w,hlen,hfit,hat,c1,c2,hb,hq])
    simp[c0,h3,h10,h11,h12,hn,hg,hmd,c,hi2,w,hlen,hfit,hat,c1,c2]
    have hp2:allUp argB l (i+1):=good (by rw[hab,c1,c2];rfl)
    simp only at hx
    subst hx
    rcases hA with ⟨rfl,_,rfl⟩ | ⟨h0,q,hq,rfl,hT⟩
    · simp[c0,h3,h10,h11,h12,hn,hg,hmd,c,hi2,w,hlen,hfit,hat,c1,c2]
      exact⟨by unfold appBound;omega,⟨1,by omega,rfl,hsn _ _ (by simp) (by simp),hp2⟩,upTo_lt h12 (by simp) hi2⟩
    · simp[c0,h3,h10,h11,h12,hn,hg,hmd,c,hi2,w,hlen,hfit,hat,c1,c2,hT,hcl]
      exact⟨by unfold appBound;omega,⟨i+1,hi2,by omega,hsn _ _ (by simp;omega) (by simp),hp2⟩,upTo_lt h12 (by simp) hi2⟩
  · have hi3:i=l.length:=by omega
    subst hi3
    have hnm:NamesOk (anames l):=⟨by simp;omega,fun s hs=>by
      obtain⟨a,ha,rfl⟩:=List.mem_map.1 hs
      exact (hok a ha).1⟩
    have hX:=hA.names
    have hp:=allUp_all hp
    simp[c0,h3,h10,h11,h12,hn,hg,hmd,c]
    refine CallT.p (p_namesOnce (anames l) hnm) (by first | rfl | simp[hg]) (by show (match X.toD,some [] with | some x,some r=>some (x::r) | _,_=>none)=_;rw[hX]) ?_
    simp[c0,h3,h10,h11,h12,hn,hg,hmd,c,hb,hp]
def fldB (inp:Bool) (f:Fld):Bool:=typB f.ty 3&&argsB f.args && !(inp&&decide (0<f.args.length))
abbrev fnames (l:List Fld):List ByteArray:=l.map Fld.name
def fldsB (inp:Bool) (l:List Fld):Bool:=decide (1≤l.length)&&decide (l.length≤8)&&(l.all (fldB inp)&&onceB (fnames l))
set_option maxHeartbeats 2000000 in
theorem p_fieldsForm (l:List Fld) (inp:Bool) (hl:l.length≤4611686018427387904) (hok:∀ a∈l,FldOk a):PCall Tryz.prog gl 155 [fldsD l,dB inp] (dB (fldsB inp l)):=by
  refine PCall.by_ (md:=[]) Tryz.func155 rfl (by kernel_rfl) (n:=50) Tryz.ntmps155 (by simp) (by decide) rfl ?_
  simp
  by_cases hin:1≤l.length∧l.length≤8
  case neg =>
    have hb:fldsB inp l=false:=by
      unfold fldsB
      rw[show (decide (1≤l.length)&&decide (l.length≤8))=false by simp;omega];rfl
    refine BrT.dec (fun c0=>?_) (fun c0=>?_)
    · simp[c0,hb]
    · simp[c0]
      have c1:(8:Int)<l.length:=by omega
      simp[c0,c1,hb]
  have hb:fldsB inp l=(l.all (fldB inp)&&onceB (fnames l)):=by
    unfold fldsB
    rw[show (decide (1≤l.length)&&decide (l.length≤8))=true by simp;omega];rfl
  have n1:¬ ((l.length:Int)<1):=by omega
  have n2:¬ ((8:Int)<l.length):=by omega
  simp[n1,n2]
  refine LoopT.round (fun E S=>∃ (i:Nat) (X:SV),(i≤l.length)∧E 1=some (.d (dB inp))∧E 5=some (X)∧E 17=some (.d (fldsD l))∧E 18=some (.d (dI l.length))∧E 19=some (.d (dI i))∧(AccD 1 S X (accN Fld.name l i) i)∧(allUp (fldB inp) l i)) (upTo 19 l.length) ⟨0, .fl [] 0,by simp[n1,n2];exact⟨AccD.nil,allUp_zero _ _⟩⟩ ?_
  rintro E S hk ⟨i,X,hi,h1,h5,h17,h18,h19,hA,hp⟩
  have hn:S.n=50:=by first | (simpa using hk.n)|(have hh:=hk.n;simp[n1,n2] at hh;exact hh)
  have hg:S.gl=gl:=by first | (simpa using hk.gl)|(have hh:=hk.gl;simp[n1,n2] at hh;exact hh)
  have hmd:S.md=[]:=by first | (simpa using hk.md)|(have hh:=hk.md;simp[n1,n2] at hh;exact hh)
  simp[n1,n2,h1,h5,h17,h18,h19,hn,hg,hmd]
  have w:=wrap64 (n:=(i:Int)+1) (by omega) (by omega)
  refine BrT.dec (fun c=>?_) (fun c=>?_)
  · have hi2:i<l.length:=by omega
    have hlen:=flds_len l
    have hfit:i*5+5≤l.length*5:=by omega
    have hN:=hok _ (List.getElem_mem hi2)
    have bad:=all_bad (p:=fldB inp) hi2
    have good:=all_take (p:=fldB inp) hi2 hp
    have hat:=flds_at l hi2
    have hcl:=accN_len Fld.name l hi
    obtain⟨x,hx⟩:∃ x,l[i].name=x:=⟨_,rfl⟩
    have hsn:=fun S' q h1 h2=>AccD.snoc (f:=Fld.name) (l:=l) (S:=S) (S':=S') (i:=i) (q:=q) hi2 h1 h2 hx.symm
    generalize hav:l[i]=a at hN bad good hat hx
    have hT:=p_typeForm (gl:=gl) a.ty hN.2.2
    have hE:=p_argsForm (gl:=gl) a.args hN.2.1.1 hN.2.1.2
    have hab:fldB inp a=(typB a.ty 3&&argsB a.args && !(inp&&decide (0<a.args.length))):=rfl
    obtain⟨nm,args,ty⟩:=a
    cases ty with
    | mk t lt b =>
    simp only[Fld.cells,Typ.cells] at hat
    simp[n1,n2,h1,h5,h17,h18,h19,hn,hg,hmd,c,hi2,w,hlen,hfit,hat]
    repeat refine⟨DrawT.mk (by kernel_rfl),?_⟩
    refine CallT.p0 (hT) (by first | rfl | (simp;done)|(simp[n1,n2,h1,h5,h17,h18,h19,hn,hg,hmd,c,hi2,w,hlen,hfit,hat];done)) (by first | rfl | (simp;done)|(simp;rfl)|(simp[n1,n2,h1,h5,h17,h18,h19,hn,hg,hmd,c,hi2,w,hlen,hfit,hat];done)) ?_
    simp[n1,n2,h1,h5,h17,h18,h19,hn,hg,hmd,c,hi2,w,hlen,hfit,hat]
    simp only at hab
    refine BrT.mk (fun c1=>?_) (fun c1=>?_)
    case refine_2=>(have hq:=bad (by rw[hab,c1];rfl);simp[n1,n2,h1,h5,h17,h18,h19,hn,hg,hmd,c,hi2,w,hlen,hfit,hat,c1,hb,hq])
    simp[n1,n2,h1,h5,h17,h18,h19,hn,hg,hmd,c,hi2,w,hlen,hfit,hat,c1]
    repeat refine⟨DrawT.mk (by kernel_rfl),?_⟩
    refine CallT.p0 (hE) (by first | rfl | (simp;done)|(simp[n1,n2,h1,h5,h17,h18,h19,hn,hg,hmd,c,hi2,w,hlen,hfit,hat,c1];done)) (by first | rfl | (simp;done)|(simp;rfl)|(simp[n1,n2,h1,h5,h17,h18,h19,hn,hg,hmd,c,hi2,w,hlen,hfit,hat,c1];done)) ?_
    simp[n1,n2,h1,h5,h17,h18,h19,hn,hg,hmd,c,hi2,w,hlen,hfit,hat,c1]
    refine BrT.mk (fun c2=>?_) (fun c2=>?_)
    case refine_2=>(have hq:=bad (by rw[hab,c2,Bool.and_false];rfl);simp[n1,n2,h1,h5,h17,h18,h19,hn,hg,hmd,c,hi2,w,hlen,hfit,hat,c1,c2,hb,hq])
    cases inp with
    | false =>
      simp[n1,n2,h1,h5,h17,h18,h19,hn,hg,hmd,c,hi2,w,hlen,hfit,hat,c1,c2]
      have hp2:allUp (fldB false) l (i+1):=good (by rw[hab,c1,c2];rfl)
      simp only at hx
      subst hx
      rcases hA with ⟨rfl,_,rfl⟩ | ⟨h0,q,hq,rfl,hT⟩
      · simp[n1,n2,h1,h5,h17,h18,h19,hn,hg,hmd,c,hi2,w,hlen,hfit,hat,c1,c2]
        exact⟨by unfold appBound;omega,⟨1,by omega,rfl,hsn _ _ (by simp) (by simp),hp2⟩,upTo_lt h19 (by simp) hi2⟩
      · simp[n1,n2,h1,h5,h17,h18,h19,hn,hg,hmd,c,hi2,w,hlen,hfit,hat,c1,c2,hT,hcl]
        exact⟨by unfold appBound;omega,⟨i+1,hi2,by omega,hsn _ _ (by simp;omega) (by simp),hp2⟩,upTo_lt h19 (by simp) hi2⟩
    | true =>
      by_cases hz:0<args.length
      · have hz2:(0:Int)<args.length:=by omega
        have hq:=bad (by rw[hab,decide_eq_true hz];simp)
        simp[n1,n2,h1,h5,h17,h18,h19,hn,hg,hmd,c,hi2,w,hlen,hfit,hat,c1,c2,hz,hz2,hb,hq]
      · have hz3:args=[]:=List.eq_nil_of_length_eq_zero (by omega)
        subst hz3
        simp[n1,n2,h1,h5,h17,h18,h19,hn,hg,hmd,c,hi2,w,hlen,hfit,hat,c1,c2]
        have hp2:allUp (fldB true) l (i+1):=good (by rw[hab,c1,c2];rw[decide_eq_false hz];rfl)
        simp only at hx
        subst hx
        rcases hA with ⟨rfl,_,rfl⟩ | ⟨h0,q,hq,rfl,hT⟩
        · simp[n1,n2,h1,h5,h17,h18,h19,hn,hg,hmd,c,hi2,w,hlen,hfit,hat,c1,c2]
          exact⟨by unfold appBound;omega,⟨1,by omega,rfl,hsn _ _ (by simp) (by simp),hp2⟩,upTo_lt h19 (by simp) hi2⟩
        · simp[n1,n2,h1,h5,h17,h18,h19,hn,hg,hmd,c,hi2,w,hlen,hfit,hat,c1,c2,hT,hcl]
          exact⟨by unfold appBound;omega,⟨i+1,hi2,by omega,hsn _ _ (by simp;omega) (by simp),hp2⟩,upTo_lt h19 (by simp) hi2⟩
  · have hi3:i=l.length:=by omega
    subst hi3
    have hnm:NamesOk (fnames l):=⟨by simp;omega,fun s hs=>by
      obtain⟨a,ha,rfl⟩:=List.mem_map.1 hs
      exact (hok a ha).1⟩
    have hX:=hA.names
    have hp:=allUp_all hp
    simp[n1,n2,h1,h5,h17,h18,h19,hn,hg,hmd,c]
    refine CallT.p (p_namesOnce (fnames l) hnm) (by first | rfl | simp[hg]) (by show (match X.toD,some [] with | some x,some r=>some (x::r) | _,_=>none)=_;rw[hX]) ?_
    simp[n1,n2,h1,h5,h17,h18,h19,hn,hg,hmd,c,hb,hp]
def defB (d:Def):Bool:=nameB d.name && !groundB d.name &&
  (if d.kind=1∨d.kind=3 then decide (d.words.length=0)&&fldsB (decide (d.kind=3)) d.flds
   else if d.kind=2∨d.kind=4 then decide (d.flds.length=0)&&(decide (1≤d.words.length)&&(decide (d.words.length≤8)&&onceB d.words))
   else false)
set_option maxHeartbeats 2000000 in
theorem p_defForm (d:Def) (hok:DefOk d):PCall Tryz.prog gl 62 [d.d] (dB (defB d)):=by
  obtain⟨h1,h2,h3⟩:=hok
  have hF:=fun b=>p_fieldsForm (gl:=gl) d.flds b h2.1 h2.2
  obtain⟨nm,kind,flds,words⟩:=d
  simp only at h1 h2 h3 hF
  refine PCall.by_ (md:=[]) Tryz.func62 rfl (by kernel_rfl) (n:=53) Tryz.ntmps62 (by simp) (by decide) rfl ?_
  simp[Def.cells,defB]
  repeat refine⟨DrawT.mk (by kernel_rfl),?_⟩
  refine CallT.p0 (p_isName nm h1) (by first | rfl | (simp;done)|(simp[Def.cells,defB];done)) (by first | rfl | (simp;done)|(simp;rfl)|(simp[Def.cells,defB];done)) ?_
  simp[Def.cells,defB]
  refine BrT.mk (fun c1=>?_) (fun c1=>?_)
  case refine_2=>simp[Def.cells,defB,c1]
  simp[Def.cells,defB,c1]
  repeat refine⟨DrawT.mk (by kernel_rfl),?_⟩
  refine CallT.p0 (p_isGround nm) (by first | rfl | (simp;done)|(simp[Def.cells,defB,c1];done)) (by first | rfl | (simp;done)|(simp;rfl)|(simp[Def.cells,defB,c1];done)) ?_
  simp[Def.cells,defB,c1]
  refine BrT.mk (fun c2=>?_) (fun c2=>?_)
  case refine_1=>simp[Def.cells,defB,c1,c2]
  simp[Def.cells,defB,c1,c2]
  refine BrT.dec (fun k1=>?_) (fun k1=>?_)
  · simp[Def.cells,defB,c1,c2,k1]
    refine BrT.dec (fun w0=>?_) (fun w0=>?_)
    case refine_2=>simp[Def.cells,defB,c1,c2,k1,w0]
    simp[Def.cells,defB,c1,c2,k1,w0]
    repeat refine⟨DrawT.mk (by kernel_rfl),?_⟩
    refine CallT.p0 (hF false) (by first | rfl | (simp;done)|(simp[Def.cells,defB,c1,c2,k1,w0];done)) (by first | rfl | (simp;done)|(simp;rfl)|(simp[Def.cells,defB,c1,c2,k1,w0];done)) ?_
    simp[Def.cells,defB,c1,c2,k1,w0]
  simp[Def.cells,defB,c1,c2,k1]
  refine BrT.dec (fun k3=>?_) (fun k3=>?_)
  · simp[Def.cells,defB,c1,c2,k1,k3]
    refine BrT.dec (fun w0=>?_) (fun w0=>?_)
    case refine_2=>simp[Def.cells,defB,c1,c2,k1,k3,w0]
    simp[Def.cells,defB,c1,c2,k1,k3,w0]
    repeat refine⟨DrawT.mk (by kernel_rfl),?_⟩
    refine CallT.p0 (hF true) (by first | rfl | (simp;done)|(simp[Def.cells,defB,c1,c2,k1,k3,w0];done)) (by first | rfl | (simp;done)|(simp;rfl)|(simp[Def.cells,defB,c1,c2,k1,k3,w0];done)) ?_
    simp[Def.cells,defB,c1,c2,k1,k3,w0]
  simp[Def.cells,defB,c1,c2,k1,k3]
  refine BrT.dec (fun k2=>?_) (fun k2=>?_)
  · simp[Def.cells,defB,c1,c2,k1,k3,k2]
    refine BrT.dec (fun f0=>?_) (fun f0=>?_)
    case refine_2=>simp[Def.cells,defB,c1,c2,k1,k3,k2,f0]
    simp[Def.cells,defB,c1,c2,k1,k3,k2,f0]
    by_cases g1:1≤words.length
    · by_cases g2:words.length≤8
      · have g3:(1:Int)≤words.length:=by omega
        have g4:(words.length:Int)≤8:=by omega
        have g5:words≠[]:=fun e=>by rw[e] at g1;simp at g1
        simp[Def.cells,defB,c1,c2,k1,k3,k2,f0,g1,g2,g3,g4,g5]
        repeat refine⟨DrawT.mk (by kernel_rfl),?_⟩
        refine CallT.p0 (p_namesOnce words h3) (by first | rfl | (simp;done)|(simp[Def.cells,defB,c1,c2,k1,k3,k2,f0,g1,g2,g3,g4,g5];done)) (by first | rfl | (simp;done)|(simp;rfl)|(simp[Def.cells,defB,c1,c2,k1,k3,k2,f0,g1,g2,g3,g4,g5];done)) ?_
        simp[Def.cells,defB,c1,c2,k1,k3,k2,f0,g1,g2,g3,g4,g5]
      · have g3:(1:Int)≤words.length:=by omega
        have g4:¬ (words.length:Int)≤8:=by omega
        simp[Def.cells,defB,c1,c2,k1,k3,k2,f0,g1,g2,g3,g4]
    · have g3:¬ (1:Int)≤words.length:=by omega
      simp[Def.cells,defB,c1,c2,k1,k3,k2,f0,g1,g3]
  simp[Def.cells,defB,c1,c2,k1,k3,k2]
  refine BrT.dec (fun k4=>?_) (fun k4=>?_)
  · simp[Def.cells,defB,c1,c2,k1,k3,k2,k4]
    refine BrT.dec (fun f0=>?_) (fun f0=>?_)
    case refine_2=>simp[Def.cells,defB,c1,c2,k1,k3,k2,k4,f0]
    simp[Def.cells,defB,c1,c2,k1,k3,k2,k4,f0]
    by_cases g1:1≤words.length
    · by_cases g2:words.length≤8
      · have g3:(1:Int)≤words.length:=by omega
        have g4:(words.length:Int)≤8:=by omega
        have g5:words≠[]:=fun e=>by rw[e] at g1;simp at g1
        simp[Def.cells,defB,c1,c2,k1,k3,k2,k4,f0,g1,g2,g3,g4,g5]
        repeat refine⟨DrawT.mk (by kernel_rfl),?_⟩
        refine CallT.p0 (p_namesOnce words h3) (by first | rfl | (simp;done)|(simp[Def.cells,defB,c1,c2,k1,k3,k2,k4,f0,g1,g2,g3,g4,g5];done)) (by first | rfl | (simp;done)|(simp;rfl)|(simp[Def.cells,defB,c1,c2,k1,k3,k2,k4,f0,g1,g2,g3,g4,g5];done)) ?_
        simp[Def.cells,defB,c1,c2,k1,k3,k2,k4,f0,g1,g2,g3,g4,g5]
      · have g3:(1:Int)≤words.length:=by omega
        have g4:¬ (words.length:Int)≤8:=by omega
        simp[Def.cells,defB,c1,c2,k1,k3,k2,k4,f0,g1,g2,g3,g4]
    · have g3:¬ (1:Int)≤words.length:=by omega
      simp[Def.cells,defB,c1,c2,k1,k3,k2,k4,f0,g1,g3]
  simp[Def.cells,defB,c1,c2,k1,k3,k2,k4]
theorem nameB_no:nameB noS=false:=by decide
set_option maxHeartbeats 2000000 in
theorem p_l2Type (v:Typ) (hv:TLe 4611686018427387904 v) (d:Nat) (hd:d≤1000000):PCall Tryz.prog gl 94 [v.d,dI (d+1:Nat)] (dB (typB v (d+1))):=by
  match v,d,hv with
  | .mk t l b,d, .mk ht hl hwf =>
    have ih:∀ x e,l=[x]→d=e+1→PCall Tryz.prog gl 94 [x.d,dI (e+1:Nat)] (dB (typB x (e+1))):=fun x e h1 h2=>p_l2Type x (hwf x (by simp[h1])) e (by omega)
    match l,ih with
    | [],_ =>
      have hq:typB (.mk t [] b) (d+1)=nameB t:=by
        unfold typB
        by_cases h0:t=noS
        · subst h0;rw[if_pos rfl,nameB_no]
        · rw[if_neg h0];simp
      refine PCall.by_ (md:=[]) Tryz.func94 rfl (by kernel_rfl) (n:=34) Tryz.ntmps94 (by simp) (by decide) rfl ?_
      simp[Typ.cells,hq]
      repeat refine⟨DrawT.mk (by kernel_rfl),?_⟩
      refine CallT.p0 (p_l1Name t ht) (by first | rfl | (simp;done)|(simp[Typ.cells,hq];done)) (by first | rfl | (simp;done)|(simp;rfl)|(simp[Typ.cells,hq];done)) ?_
      simp[Typ.cells,hq]
    | [x],ih =>
      have hq:typB (.mk t [x] b) (d+1)=(decide (t=noS)&&typB x d):=by
        rw[typB]
        by_cases h0:t=noS
        · rw[if_pos h0,decide_eq_true h0];simp
        · rw[if_neg h0,decide_eq_false h0];simp
      refine PCall.by_ (md:=[]) Tryz.func94 rfl (by kernel_rfl) (n:=34) Tryz.ntmps94 (by simp) (by decide) rfl ?_
      simp[Typ.cells,hq,typsCells,tcells_len]
      refine BrT.dec (fun t0=>?_) (fun t0=>?_)
      case refine_2=>simp[Typ.cells,hq,typsCells,tcells_len,t0]
      simp[Typ.cells,hq,typsCells,tcells_len,t0]
      cases d with
      | zero =>
        have hz:typB x 0=false:=by cases x;rfl
        simp[Typ.cells,hq,typsCells,tcells_len,t0,hz]
      | succ e =>
        have h2:IntKind.i64.wrap ((e:Int)+1)=(e:Int)+1:=wrap64 (by omega) (by omega)
        have ih:=ih x e rfl rfl
        rw[show ((e+1:Nat):Int)=(e:Int)+1 from rfl] at ih
        refine BrT.dec (fun g=>?_) (fun g=>?_)
        case refine_2=>(exact absurd g (by omega))
        simp[Typ.cells,hq,typsCells,tcells_len,t0,h2,g]
        refine BrT.dec (fun g2=>?_) (fun g2=>?_)
        case refine_2=>(exact absurd g2 (by omega))
        simp[Typ.cells,hq,typsCells,tcells_len,t0,h2,g,g2]
        repeat refine⟨DrawT.mk (by kernel_rfl),?_⟩
        refine CallT.p0 (ih) (by first | rfl | (simp;done)|(simp[Typ.cells,hq,typsCells,tcells_len,t0,h2,g,g2];done)) (by first | rfl | (simp;done)|(simp;rfl)|(simp[Typ.cells,hq,typsCells,tcells_len,t0,h2,g,g2];done)) ?_
        simp[Typ.cells,hq,typsCells,tcells_len,t0,h2,g,g2]
    | x::y::r,_ =>
      have hq:typB (.mk t (x::y::r) b) (d+1)=false:=by
        unfold typB
        by_cases h0:t=noS
        · rw[if_pos h0]
        · rw[if_neg h0];simp
      have hr:¬ ((r.length:Int)+1+1=1):=by omega
      have hr0:¬ ((r.length:Int)+1+1=0):=by omega
      refine PCall.by_ (md:=[]) Tryz.func94 rfl (by kernel_rfl) (n:=34) Tryz.ntmps94 (by simp) (by decide) rfl ?_
      simp[Typ.cells,hq,hr,hr0]
      refine BrT.dec (fun t0=>?_) (fun t0=>?_)
      case refine_2=>simp[Typ.cells,hq,hr,hr0,t0]
      simp[Typ.cells,hq,hr,hr0,t0]
  termination_by d
def atD (l:List Def) (s:ByteArray):Option Nat:=l.findIdx? fun d=>decide (d.name=s)
def schGo:List Def→List Def→List Def
  | acc,[]=>acc
  | acc,d::r=>match atD acc d.name with | none=>schGo (acc++[d]) r | some _=>schGo acc r
def schL (l:List Def):List Def:=schGo [] l
def ksD (l:List Def):List D:=l.map fun d=>.v (.string d.name)
def vsD (l:List Def):List SV:=l.map fun d=>.ag (d.cells.map .d)
abbrev schD (l:List Def):D:=.mp (ksD l) (l.map Def.d)
theorem idx_ks (l:List Def) (s:ByteArray):idxK (ksD l) s=some (atD l s):=idxK_map Def.name s l
@[simp] theorem vsD_len (l:List Def):(vsD l).length=l.length:=List.length_map ..
@[simp] theorem ksD_len (l:List Def):(ksD l).length=l.length:=List.length_map ..
theorem vsD_snoc (l:List Def) (d:Def):vsD (l++[d])=vsD l++[.ag (d.cells.map .d)]:=by simp[vsD]
theorem ksD_snoc (l:List Def) (d:Def):ksD (l++[d])=ksD l++[.v (.string d.name)]:=by simp[ksD]
theorem atD_lt {l:List Def}{s:ByteArray}{j:Nat} (h:atD l s=some j):j<l.length:=by
  unfold atD at h
  exact (List.findIdx?_eq_some_iff_getElem.1 h).1
theorem frz_vs (B:Nat→Option (List SV)) (k:Nat) (l:List Def):mapO (frz B (k+2)) (vsD l)=some (l.map Def.d):=by
  induction l with
  | nil=>rfl
  | cons d r ih =>
    have h1:frz B (k+2) (.ag (d.cells.map .d))=some d.d:=by
      show (mapO (frz B (k+1)) (d.cells.map .d)).map D.agg=_
      rw[mapO_frzd];rfl
    simp only[vsD,List.map_cons,mapO]
    simp only[vsD] at ih
    rw[h1,ih]
set_option maxHeartbeats 2000000 in
theorem p_schemaOf (l:List Def) (hl:l.length≤1000000):PCall Tryz.prog gl 63 [defsD l] (schD (schL l)):=by
  refine PCall.by_ (md:=[]) Tryz.func63 rfl (by kernel_rfl) (n:=30) Tryz.ntmps63 (by simp) (by decide) rfl ?_
  simp
  refine LoopT.round (fun E S=>∃ (i:Nat) (acc:List Def),(i≤l.length)∧E 3=some (.mv 1)∧E 9=some (.d (defsD l))∧E 10=some (.d (dI l.length))∧E 11=some (.d (dI i))∧S.B 1=some ([.mc (ksD acc) (vsD acc)])∧(schGo acc (l.drop i)=schL l)∧(2≤S.nx)) (upTo 11 l.length) ⟨0,[],by simp;exact⟨⟨rfl,rfl⟩,rfl⟩⟩ ?_
  rintro E S hk ⟨i,acc,hi,h3,h9,h10,h11,hB1,hp,hx⟩
  have hn:S.n=30:=by first | (simpa using hk.n)|(have hh:=hk.n;simp at hh;exact hh)
  have hg:S.gl=gl:=by first | (simpa using hk.gl)|(have hh:=hk.gl;simp at hh;exact hh)
  have hmd:S.md=[]:=by first | (simpa using hk.md)|(have hh:=hk.md;simp at hh;exact hh)
  simp[h3,h9,h10,h11,hB1,hn,hg,hmd]
  have w:=wrap64 (n:=(i:Int)+1) (by omega) (by omega)
  refine BrT.dec (fun c=>?_) (fun c=>?_)
  · have hi2:i<l.length:=by omega
    have hlen:=defs_len l
    have hfit:i*4+4≤l.length*4:=by omega
    rw[List.drop_eq_getElem_cons hi2] at hp
    have hat:=defs_at l hi2
    generalize l[i]=d at hp hat
    obtain⟨nm,kind,flds,words⟩:=d
    simp only[Def.cells] at hat
    simp[h3,h9,h10,h11,hB1,hn,hg,hmd,c,hi2,w,hlen,hfit,hat]
    cases ha:atD acc nm with
    | none =>
      have hi0:idxK (ksD acc) nm=some none:=by rw[idx_ks,ha]
      refine⟨_,lookS_none (e:=29) (z:=.ag [.d (dS noS), .d (dI 0), .fl [] 0, .fl [] 0]) (by kernel_rfl) hi0 (by kernel_rfl),?_⟩
      simp[h3,h9,h10,h11,hB1,hn,hg,hmd,c,hi2,w,hlen,hfit,hat]
      simp only[schGo,ha] at hp
      exact⟨_,updK_none hi0,⟨i+1,hi2,by omega,acc++[⟨nm,kind,flds,words⟩],by rw[ksD_snoc,vsD_snoc];rfl,hp⟩,upTo_lt h11 (by simp) hi2⟩
    | some j =>
      have hj:=atD_lt ha
      have hi0:idxK (ksD acc) nm=some (some j):=by rw[idx_ks,ha]
      refine⟨_,lookS_at (e:=29) (by kernel_rfl) hi0 (List.getElem?_eq_getElem (by simpa using hj)),?_⟩
      simp[h3,h9,h10,h11,hB1,hn,hg,hmd,c,hi2,w,hlen,hfit,hat]
      simp only[schGo,ha] at hp
      have hv:(vsD acc)[j]'(by simpa using hj)=.ag (acc[j].cells.map .d):=by simp[vsD]
      exact⟨⟨by rw[hv];rfl,by rw[hv];rfl⟩,⟨i+1,hi2,by omega,acc,⟨rfl,rfl⟩,hp⟩,upTo_lt h11 (by simp) hi2⟩
  · rw[List.drop_eq_nil_of_le (by omega),schGo] at hp
    subst hp
    simp[h3,h9,h10,h11,hB1,hn,hg,hmd,c]
    exact frz_vs _ _ _
theorem all_seen {l:List Def}{p:Def→Bool}{seen:List Nat} (h:∀ j∈seen,∀ (hj:j<l.length),p l[j]=true) (hall:∀ j,j<l.length→j∈seen):l.all p=true :=
  List.all_eq_true.2 fun d hd=>by
    obtain⟨j,hj,rfl⟩:=List.getElem_of_mem hd
    exact h j (hall j hj) hj
def walkMu (n:Nat) (E:Env) (S:St):Nat:=match E 8 with
  | some (.iv b)=>(match S.B b with | some [.ic _ _ seen]=>((List.range n).filter fun j=>!seen.contains j).length | _=>0)
  | _=>0
theorem walkMu_lt {n b j:Nat}{E E':Env}{S S':St}{ks vs:List D}{seen:List Nat} (h:E 8=some (.iv b)) (hB:S.B b=some [.ic ks vs seen]) (h':E' 8=some (.iv b)) (hB':S'.B b=some [.ic ks vs (seen++[j])]) (hj:j<n) (hn:j∉seen):walkMu n E' S'<walkMu n E S:=by
  unfold walkMu
  rw[h,h']
  simp only[hB,hB']
  have e:((List.range n).filter fun k=>!(seen++[j]).contains k)=((List.range n).filter fun k=>!seen.contains k).filter fun k=>!(k == j):=by
    rw[List.filter_filter]
    congr 1
    funext k
    by_cases c:k=j<;>simp[c]
  rw[e]
  have hm:j∈(List.range n).filter fun k=>!seen.contains k:=by simp[hj,hn]
  have:=List.length_filter_lt_length_iff_exists (p:=fun k=>!(k == j)) (l:=(List.range n).filter fun k=>!seen.contains k)
  exact this.2 ⟨j,hm,by simp⟩
set_option maxHeartbeats 2000000 in
theorem p_eachDef (l:List Def) (f:FuncId) (caps:List D) (p:Def→Bool) (h:∀ d∈l,PCall Tryz.prog gl f (d.d::caps) (dB (p d))):PCall Tryz.prog gl 157 [schD l, .fn (.func f) [] caps] (dB (l.all p)):=by
  refine PCall.by_ (md:=[]) Tryz.func157 rfl (by kernel_rfl) (n:=17) Tryz.ntmps157 (by simp) (by decide) rfl ?_
  simp
  refine LoopT.round (fun E S=>∃ (seen:List Nat),E 1=some (.d (.fn (.func f) [] caps))∧E 8=some (.iv 2)∧S.B 2=some ([.ic (ksD l) (l.map Def.d) seen])∧(∀ j∈seen,∀ (hj:j<l.length),p l[j]=true)) (walkMu l.length) ⟨[],by simp⟩ ?_
  rintro E S hk ⟨seen,h1,h8,hB2,hp⟩
  have hn:S.n=17:=by first | (simpa using hk.n)|(have hh:=hk.n;simp at hh;exact hh)
  have hg:S.gl=gl:=by first | (simpa using hk.gl)|(have hh:=hk.gl;simp at hh;exact hh)
  have hmd:S.md=[]:=by first | (simpa using hk.md)|(have hh:=hk.md;simp at hh;exact hh)
  simp[h1,h8,hB2,hn,hg,hmd]
  refine nextV.mk (fun j hk1 hv1 hj=>?_) (fun hall=>?_)
  · have hj2:j<l.length:=by simpa using hk1
    have kj:(ksD l)[j]?=some (dS l[j].name):=by simp[ksD,hj2]
    have lj:l[j]?=some l[j]:=List.getElem?_eq_getElem hj2
    simp[h1,h8,hB2,hn,hg,hmd,kj,lj,dcells_len]
    have hd:=h _ (List.getElem_mem hj2)
    repeat refine⟨DrawT.mk (by kernel_rfl),?_⟩
    refine CallT.p0 (hd) (by first | rfl | (simp;done)|(simp[h1,h8,hB2,hn,hg,hmd,kj,lj,dcells_len];done)) (by first | rfl | (simp;done)|(simp;rfl)|(simp[h1,h8,hB2,hn,hg,hmd,kj,lj,dcells_len];done)) ?_
    simp[h1,h8,hB2,hn,hg,hmd,kj,lj,dcells_len]
    refine BrT.mk (fun c=>?_) (fun c=>?_)
    case refine_2=>(have hq:l.all p=false:=all_bad hj2 c;simp only[hq];simp[h1,h8,hB2,hn,hg,hmd,kj,lj,dcells_len,c])
    simp[h1,h8,hB2,hn,hg,hmd,kj,lj,dcells_len,c]
    refine⟨fun k hk2 hk3=>?_,walkMu_lt h8 hB2 (by simp[h8]) (by first | (simp;done)|(((try simp);(repeat first | rw[if_neg (by omega)] | rw[if_pos (by omega)]);(try (intro h;exfalso;omega));(try (intro _;(repeat first | rw[if_neg (by omega)] | rw[if_pos (by omega)]))));done)) hj2 hj⟩
    rcases hk2 with h1 | rfl
    · exact hp k h1 hk3
    · exact c
  · simp[h1,h8,hB2,hn,hg,hmd]
    exact List.all_eq_true.1 (all_seen hp (by simpa using hall))
def zeroDef:Def:=⟨noS,0,[],[]⟩
def defL (l:List Def) (s:ByteArray):Def:=match atD l s with | some j=>l.getD j zeroDef | none=>zeroDef
def kindL (l:List Def) (s:ByteArray):Int:=(defL l s).kind
theorem defL_none {l:List Def}{s:ByteArray} (h:atD l s=none):defL l s=zeroDef:=by unfold defL;rw[h]
theorem defL_some {l:List Def}{s:ByteArray}{j:Nat} (h:atD l s=some j):defL l s=l[j]'(atD_lt h):=by
  unfold defL;rw[h]
  simp[List.getD_eq_getElem?_getD,atD_lt h]
theorem look_some {l:List Def}{s:ByteArray}{j:Nat}{ok:Bool} (h:atD l s=some j):lookS Tryz.prog 98 (ksD l) (l.map (SV.d∘Def.d)) s ok=some (if ok then .tu [.d (defL l s).d, .d (.v (.bool true))] else .d (defL l s).d):=by
  rw[defL_some h]
  exact lookS_at (e:=29) (by kernel_rfl) (by rw[idx_ks,h]) (by simp[atD_lt h])
theorem look_none {l:List Def}{s:ByteArray}{ok:Bool} (h:atD l s=none):lookS Tryz.prog 98 (ksD l) (l.map (SV.d∘Def.d)) s ok=some (if ok then .tu [.ag [.d (dS noS), .d (dI 0), .fl [] 0, .fl [] 0], .d (.v (.bool false))] else .ag [.d (dS noS), .d (dI 0), .fl [] 0, .fl [] 0]) :=
  lookS_none (e:=29) (by kernel_rfl) (by rw[idx_ks,h]) (by kernel_rfl)
@[simp] theorem dcells_kind (d:Def):d.cells[1]?=some (dI d.kind):=rfl
set_option maxHeartbeats 2000000 in
theorem p_isObject (l:List Def) (s:ByteArray):PCall Tryz.prog gl 162 [schD l,dS s] (dB (decide (kindL l s=1))):=by
  refine PCall.by_ (md:=[]) Tryz.func162 rfl (by kernel_rfl) (n:=10) Tryz.ntmps162 (by simp) (by decide) rfl ?_
  simp
  cases h:atD l s with
  | none =>
    refine⟨_,look_none h,?_⟩
    simp[kindL,defL_none h,zeroDef]
  | some j =>
    refine⟨_,look_some h,?_⟩
    simp[kindL]
    rfl
set_option maxHeartbeats 2000000 in
theorem p_isThere (l:List Def) (s:ByteArray):PCall Tryz.prog gl 159 [schD l,dS s] (dB ((atD l s).isSome || groundB s)):=by
  refine PCall.by_ (md:=[]) Tryz.func159 rfl (by kernel_rfl) (n:=18) Tryz.ntmps159 (by simp) (by decide) rfl ?_
  simp
  cases h:atD l s with
  | none =>
    refine⟨_,look_none h,?_⟩
    simp
    repeat refine⟨DrawT.mk (by kernel_rfl),?_⟩
    refine CallT.p0 (p_isGround s) (by first | rfl | (simp;done)|(simp;done)) (by first | rfl | (simp;done)|(simp;rfl)|(simp;done)) ?_
    simp
  | some j =>
    refine⟨_,look_some h,?_⟩
    simp[dcells_len]
def givenB (l:List Def) (s:ByteArray):Bool:=groundB s || decide (kindL l s=2) || decide (kindL l s=3)
def outB (l:List Def) (s:ByteArray):Bool:=groundB s || decide (kindL l s=2) || decide (kindL l s=1) || decide (kindL l s=4)
set_option maxHeartbeats 2000000 in
theorem p_isGivenIn (l:List Def) (s:ByteArray):PCall Tryz.prog gl 78 [schD l,dS s] (dB (givenB l s)):=by
  have main:∀ r z,lookS Tryz.prog 98 (ksD l) (l.map (SV.d∘Def.d)) s false=some r→fieldE Tryz.prog (some r) (some (3,1))=some (.d (dI z), .no)→z=kindL l s→PCall Tryz.prog gl 78 [schD l,dS s] (dB (givenB l s)):=fun r z h1 h2 h3=>by
    refine PCall.by_ (md:=[]) Tryz.func78 rfl (by kernel_rfl) (n:=20) Tryz.ntmps78 (by simp) (by decide) rfl ?_
    simp
    refine⟨r,h1,?_⟩
    simp[h2,givenB, ← h3]
    repeat refine⟨DrawT.mk (by kernel_rfl),?_⟩
    refine CallT.p0 (p_isGround s) (by first | rfl | (simp;done)|(simp[h2,givenB, ← h3];done)) (by first | rfl | (simp;done)|(simp;rfl)|(simp[h2,givenB, ← h3];done)) ?_
    simp[h2,givenB, ← h3]
    refine BrT.mk (fun g=>?_) (fun g=>?_)
    case refine_1=>simp[h2,givenB, ← h3,g]
    simp[h2,givenB, ← h3,g]
    refine BrT.dec (fun k2=>?_) (fun k2=>?_)
    case refine_1=>simp[h2,givenB, ← h3,g,k2]
    simp[h2,givenB, ← h3,g,k2]
  cases h:atD l s with
  | none=>exact main _ 0 (look_none h) (by kernel_rfl) (by rw[kindL,defL_none h];rfl)
  | some j=>exact main _ (defL l s).kind (look_some h) (by simp) rfl
set_option maxHeartbeats 2000000 in
theorem p_comesOut (l:List Def) (s:ByteArray):PCall Tryz.prog gl 161 [schD l,dS s] (dB (outB l s)):=by
  have main:∀ r z,lookS Tryz.prog 98 (ksD l) (l.map (SV.d∘Def.d)) s false=some r→fieldE Tryz.prog (some r) (some (3,1))=some (.d (dI z), .no)→z=kindL l s→PCall Tryz.prog gl 161 [schD l,dS s] (dB (outB l s)):=fun r z h1 h2 h3=>by
    refine PCall.by_ (md:=[]) Tryz.func161 rfl (by kernel_rfl) (n:=24) Tryz.ntmps161 (by simp) (by decide) rfl ?_
    simp
    refine⟨r,h1,?_⟩
    simp[h2,outB, ← h3]
    repeat refine⟨DrawT.mk (by kernel_rfl),?_⟩
    refine CallT.p0 (p_isGround s) (by first | rfl | (simp;done)|(simp[h2,outB, ← h3];done)) (by first | rfl | (simp;done)|(simp;rfl)|(simp[h2,outB, ← h3];done)) ?_
    simp[h2,outB, ← h3]
    refine BrT.mk (fun g=>?_) (fun g=>?_)
    case refine_1=>simp[h2,outB, ← h3,g]
    simp[h2,outB, ← h3,g]
    refine BrT.dec (fun k2=>?_) (fun k2=>?_)
    case refine_1=>simp[h2,outB, ← h3,g,k2]
    simp[h2,outB, ← h3,g,k2]
    refine BrT.dec (fun k1=>?_) (fun k1=>?_)
    case refine_1=>simp[h2,outB, ← h3,g,k2,k1]
    simp[h2,outB, ← h3,g,k2,k1]
  cases h:atD l s with
  | none=>exact main _ 0 (look_none h) (by kernel_rfl) (by rw[kindL,defL_none h];rfl)
  | some j=>exact main _ (defL l s).kind (look_some h) (by simp) rfl
theorem baseT_name {t:ByteArray}{l:List Typ}{b:Bool} (h:t≠noS):baseT (.mk t l b)=t:=by unfold baseT;rw[if_neg h]
theorem baseT_of {x:Typ}{r:List Typ}{b:Bool}:baseT (.mk noS (x::r) b)=baseT x:=by rw[baseT,if_pos rfl]
set_option maxHeartbeats 2000000 in
theorem p_baseOf (v:Typ) (d:Nat) (hv:typB v d=true):PCall Tryz.prog gl 79 [v.d] (dS (baseT v)):=by
  cases hv0:v with
  | mk t0 l0 b0 =>
  refine PCall.by_ (md:=[]) Tryz.func79 rfl (by kernel_rfl) (n:=12) Tryz.ntmps79 (by simp) (by decide) rfl ?_
  simp[Typ.cells]
  refine LoopT.round (fun E S=>∃ (t:ByteArray) (l:List Typ) (b:Bool) (e:Nat),E 1=some (.op 0 0)∧S.B 0=some ([.d (dS t), .d (typsD l), .d (dB b)])∧(baseT (.mk t l b)=baseT (.mk t0 l0 b0))∧(typB (.mk t l b) e=true)∧(1≤S.nx)) (fun E S=>match S.B 0 with | some [_, .d (.ps cs _),_]=>SizeOf.sizeOf cs | _=>0) ⟨t0,l0,b0,d,by simp[Typ.cells];rw[← hv0];exact hv⟩ ?_
  rintro E S hk ⟨t,l,b,e,h1,hB0,hb,hd,hx⟩
  have hn:S.n=12:=by first | (simpa using hk.n)|(have hh:=hk.n;simp[Typ.cells] at hh;exact hh)
  have hg:S.gl=gl:=by first | (simpa using hk.gl)|(have hh:=hk.gl;simp[Typ.cells] at hh;exact hh)
  have hmd:S.md=[]:=by first | (simpa using hk.md)|(have hh:=hk.md;simp[Typ.cells] at hh;exact hh)
  simp[Typ.cells,h1,hB0,hn,hg,hmd]
  refine BrT.dec (fun c=>?_) (fun c=>?_)
  · subst c
    cases e with
    | zero=>simp[typB] at hd
    | succ e =>
      unfold typB at hd
      rw[if_pos rfl] at hd
      match l,hd with
      | [x],hd =>
        simp only at hd
        cases hx2:x with
        | mk t2 l2 b2 =>
        rw[hx2] at hd
        rw[hx2,baseT_of] at hb
        subst hx2
        simp[h1,hB0,hn,hg,hmd,Typ.cells,typsCells]
        refine⟨⟨t2,l2,?_⟩,by omega⟩
        cases b2 with
        | false=>exact .inl ⟨⟨rfl,⟨rfl,rfl⟩,rfl⟩,hb,e,hd⟩
        | true=>exact .inr ⟨⟨rfl,⟨rfl,rfl⟩,rfl⟩,hb,e,hd⟩
      | [],hd=>simp at hd
      | x::y::r,hd=>simp at hd
  · simp[Typ.cells,h1,hB0,hn,hg,hmd,c]
    rw[← hb,baseT_name c]
def hereB (l:List Def) (s:ByteArray):Bool:=(atD l s).isSome || groundB s
theorem p_hereB (l:List Def) (s:ByteArray):PCall Tryz.prog gl 159 [schD l,dS s] (dB (hereB l s)):=p_isThere l s
def fldHere (l:List Def) (f:Fld):Bool:=hereB l (baseT f.ty)&&f.args.all fun a=>hereB l (baseT a.ty)
def wordHere (l:List Def) (d:Def) (w:ByteArray):Bool:=!(decide (d.kind=4) && !hereB l w)
def defHere (l:List Def) (d:Def):Bool:=d.flds.all (fldHere l)&&d.words.all (wordHere l d)
theorem fld_of {d:Def} (h:defB d=true):∀ f∈d.flds,typB f.ty 3=true∧∀ a∈f.args,argB a=true:=by
  intro f hf
  unfold defB at h
  rw[Bool.and_eq_true] at h
  have h:=h.2
  have one:∀ b,fldsB b d.flds=true→typB f.ty 3=true∧∀ a∈f.args,argB a=true:=by
    intro b h
    unfold fldsB at h
    have h2:=List.all_eq_true.1 (show d.flds.all (fldB b)=true by
      revert h;cases d.flds.all (fldB b)<;>simp) f hf
    unfold fldB at h2
    simp only[Bool.and_eq_true] at h2
    refine⟨h2.1.1,?_⟩
    have h3:=h2.1.2
    unfold argsB at h3
    intro a ha
    have h4:f.args.all argB=true:=by revert h3;cases f.args.all argB<;>simp
    exact List.all_eq_true.1 h4 a ha
  split at h
  · rw[Bool.and_eq_true] at h;exact one _ h.2
  · split at h
    · rw[Bool.and_eq_true] at h
      have:d.flds=[]:=List.eq_nil_of_length_eq_zero (by simpa using h.1)
      rw[this] at hf;cases hf
    · cases h
theorem typ_of {a:Arg} (h:argB a=true):typB a.ty 3=true:=by
  unfold argB at h
  revert h;cases typB a.ty 3<;>simp
set_option maxHeartbeats 4000000 in
theorem p_here1 (l:List Def) (d:Def) (hok:DefOk d) (hd:defB d=true):PCall Tryz.prog gl 158 [d.d, .pp [schD l] 0] (dB (defHere l d)):=by
  refine PCall.by_ (md:=[]) Tryz.func158 rfl (by kernel_rfl) (n:=55) Tryz.ntmps158 (by simp) (by decide) rfl ?_
  simp[Def.cells]
  have hfl:=hok.2.1.1
  have hwl:=hok.2.2.1
  refine LoopT.round (fun E S=>∃ (i:Nat),(i≤d.flds.length)∧E 1=some (.d (.pp [schD l] 0))∧E 2=some (.op 0 0)∧E 11=some (.d (fldsD d.flds))∧E 12=some (.d (dI d.flds.length))∧E 13=some (.d (dI i))∧S.B 0=some ([.d (dS d.name), .d (dI d.kind), .d (fldsD d.flds), .d (namesD d.words)])∧(allUp (fldHere l) d.flds i)∧(1≤S.nx)) (upTo 13 d.flds.length) ⟨0,by simp[Def.cells];exact allUp_zero _ _⟩ ?_
  rintro E S hk ⟨i,hi,h1,h2,h11,h12,h13,hB0,hp,hx⟩
  have hn:S.n=55:=by first | (simpa using hk.n)|(have hh:=hk.n;simp[Def.cells] at hh;exact hh)
  have hg:S.gl=gl:=by first | (simpa using hk.gl)|(have hh:=hk.gl;simp[Def.cells] at hh;exact hh)
  have hmd:S.md=[]:=by first | (simpa using hk.md)|(have hh:=hk.md;simp[Def.cells] at hh;exact hh)
  simp[Def.cells,h1,h2,h11,h12,h13,hB0,hn,hg,hmd]
  have w:=wrap64 (n:=(i:Int)+1) (by omega) (by omega)
  refine BrT.dec (fun c=>?_) (fun c=>?_)
  · have hi2:i<d.flds.length:=by omega
    have hlen:=flds_len d.flds
    have hfit:i*5+5≤d.flds.length*5:=by omega
    have hN:=fld_of hd _ (List.getElem_mem hi2)
    have hO:=hok.2.1.2 _ (List.getElem_mem hi2)
    have bad:fldHere l d.flds[i]=false→defHere l d=false:=fun h=>by unfold defHere;rw[all_bad hi2 h];rfl
    have good:=all_take (p:=fldHere l) hi2 hp
    have hat:=flds_at d.flds hi2
    generalize hav:d.flds[i]=a at hN hO bad good hat
    have hab:fldHere l a=(hereB l (baseT a.ty)&&a.args.all fun a=>hereB l (baseT a.ty)):=rfl
    have hT:=p_baseOf (gl:=gl) a.ty 3 hN.1
    obtain⟨nm,args,ty⟩:=a
    obtain⟨hN1,hN2⟩:=hN
    have hal:=hO.2.1.1
    simp only at hN1 hN2 hal hab
    cases ty with
    | mk t lt b =>
    simp only[Fld.cells,Typ.cells] at hat
    simp[Def.cells,h1,h2,h11,h12,h13,hB0,hn,hg,hmd,c,hi2,w,hlen,hfit,hat]
    repeat refine⟨DrawT.mk (by kernel_rfl),?_⟩
    refine CallT.p0 (hT) (by first | rfl | (simp;done)|(simp[Def.cells,h1,h2,h11,h12,h13,hB0,hn,hg,hmd,c,hi2,w,hlen,hfit,hat];done)) (by first | rfl | (simp;done)|(simp;rfl)|(simp[Def.cells,h1,h2,h11,h12,h13,hB0,hn,hg,hmd,c,hi2,w,hlen,hfit,hat];done)) ?_
    simp[Def.cells,h1,h2,h11,h12,h13,hB0,hn,hg,hmd,c,hi2,w,hlen,hfit,hat]
    repeat refine⟨DrawT.mk (by kernel_rfl),?_⟩
    refine CallT.p0 (p_hereB l (baseT (.mk t lt b))) (by first | rfl | (simp;done)|(simp[Def.cells,h1,h2,h11,h12,h13,hB0,hn,hg,hmd,c,hi2,w,hlen,hfit,hat];done)) (by first | rfl | (simp;done)|(simp;rfl)|(simp[Def.cells,h1,h2,h11,h12,h13,hB0,hn,hg,hmd,c,hi2,w,hlen,hfit,hat];done)) ?_
    simp[Def.cells,h1,h2,h11,h12,h13,hB0,hn,hg,hmd,c,hi2,w,hlen,hfit,hat]
    refine BrT.mk (fun c1=>?_) (fun c1=>?_)
    case refine_2=>(have hq:=bad (by rw[hab,c1];rfl);simp[Def.cells,h1,h2,h11,h12,h13,hB0,hn,hg,hmd,c,hi2,w,hlen,hfit,hat,c1,hq])
    simp[Def.cells,h1,h2,h11,h12,h13,hB0,hn,hg,hmd,c,hi2,w,hlen,hfit,hat,c1]
    have o13:=h13
    refine LoopT.round (fun E S=>∃ (k:Nat),(k≤args.length)∧E 1=some (.d (.pp [schD l] 0))∧E 2=some (.op 0 0)∧E 11=some (.d (fldsD d.flds))∧E 12=some (.d (dI d.flds.length))∧E 13=some (.d (dI i))∧E 24=some (.d (argsD args))∧E 25=some (.d (dI args.length))∧E 26=some (.d (dI k))∧S.B 0=some ([.d (dS d.name), .d (dI d.kind), .d (fldsD d.flds), .d (namesD d.words)])∧(allUp (fun a:Arg=>hereB l (baseT a.ty)) args k)∧(1≤S.nx)) (upTo 26 args.length) ⟨0,by simp[Def.cells,h1,h2,h11,h12,h13,hB0,hn,hg,hmd,c,hi2,w,hlen,hfit,hat,c1];exact allUp_zero _ _⟩ ?_
    rintro E S hk ⟨k,hkl,h1,h2,h11,h12,h13,h24,h25,h26,hB0,hp2,hx⟩
    have hn:S.n=55:=by first | (simpa using hk.n)|(have hh:=hk.n;simp[Def.cells,h1,h2,h11,h12,h13,hB0,hn,hg,hmd,c,hi2,w,hlen,hfit,hat,c1] at hh;exact hh)
    have hg:S.gl=gl:=by first | (simpa using hk.gl)|(have hh:=hk.gl;simp[Def.cells,h1,h2,h11,h12,h13,hB0,hn,hg,hmd,c,hi2,w,hlen,hfit,hat,c1] at hh;exact hh)
    have hmd:S.md=[]:=by first | (simpa using hk.md)|(have hh:=hk.md;simp[Def.cells,h1,h2,h11,h12,h13,hB0,hn,hg,hmd,c,hi2,w,hlen,hfit,hat,c1] at hh;exact hh)
    simp[Def.cells,h1,h2,h11,h12,h13,hB0,hn,hg,hmd,c,hi2,w,hlen,hfit,hat,c1,h1,h2,h11,h12,h13,h24,h25,h26,hB0,hn,hg,hmd]
    have w2:=wrap64 (n:=(k:Int)+1) (by omega) (by omega)
    refine BrT.dec (fun c2=>?_) (fun c2=>?_)
    · have hk2:k<args.length:=by omega
      have alen:=args_len args
      have afit:k*10+10≤args.length*10:=by omega
      have bad2:=all_bad (p:=fun a:Arg=>hereB l (baseT a.ty)) hk2
      have good2:=all_take (p:=fun a:Arg=>hereB l (baseT a.ty)) hk2 hp2
      have aat:=args_at args hk2
      have hA:=typ_of (hN2 _ (List.getElem_mem hk2))
      generalize args[k]=x at bad2 good2 aat hA
      have hT2:=p_baseOf (gl:=gl) x.ty 3 hA
      obtain⟨xn,xt,xh,xe⟩:=x
      simp only at bad2 good2 hT2
      cases xt with
      | mk t2 l2 b2 =>
      cases xe with
      | mk =>
      simp only[Arg.cells,Typ.cells,Val.cells] at aat
      simp[Def.cells,h1,h2,h11,h12,h13,hB0,hn,hg,hmd,c,hi2,w,hlen,hfit,hat,c1,h1,h2,h11,h12,h13,h24,h25,h26,hB0,hn,hg,hmd,c2,hk2,w2,alen,afit,aat]
      repeat refine⟨DrawT.mk (by kernel_rfl),?_⟩
      refine CallT.p0 (hT2) (by first | rfl | (simp;done)|(simp[Def.cells,h1,h2,h11,h12,h13,hB0,hn,hg,hmd,c,hi2,w,hlen,hfit,hat,c1,h1,h2,h11,h12,h13,h24,h25,h26,hB0,hn,hg,hmd,c2,hk2,w2,alen,afit,aat];done)) (by first | rfl | (simp;done)|(simp;rfl)|(simp[Def.cells,h1,h2,h11,h12,h13,hB0,hn,hg,hmd,c,hi2,w,hlen,hfit,hat,c1,h1,h2,h11,h12,h13,h24,h25,h26,hB0,hn,hg,hmd,c2,hk2,w2,alen,afit,aat];done)) ?_
      simp[Def.cells,h1,h2,h11,h12,h13,hB0,hn,hg,hmd,c,hi2,w,hlen,hfit,hat,c1,h1,h2,h11,h12,h13,h24,h25,h26,hB0,hn,hg,hmd,c2,hk2,w2,alen,afit,aat]
      repeat refine⟨DrawT.mk (by kernel_rfl),?_⟩
      refine CallT.p0 (p_hereB l (baseT (.mk t2 l2 b2))) (by first | rfl | (simp;done)|(simp[Def.cells,h1,h2,h11,h12,h13,hB0,hn,hg,hmd,c,hi2,w,hlen,hfit,hat,c1,h1,h2,h11,h12,h13,h24,h25,h26,hB0,hn,hg,hmd,c2,hk2,w2,alen,afit,aat];done)) (by first | rfl | (simp;done)|(simp;rfl)|(simp[Def.cells,h1,h2,h11,h12,h13,hB0,hn,hg,hmd,c,hi2,w,hlen,hfit,hat,c1,h1,h2,h11,h12,h13,h24,h25,h26,hB0,hn,hg,hmd,c2,hk2,w2,alen,afit,aat];done)) ?_
      simp[Def.cells,h1,h2,h11,h12,h13,hB0,hn,hg,hmd,c,hi2,w,hlen,hfit,hat,c1,h1,h2,h11,h12,h13,h24,h25,h26,hB0,hn,hg,hmd,c2,hk2,w2,alen,afit,aat]
      refine BrT.mk (fun c3=>?_) (fun c3=>?_)
      case refine_2=>(have hq:=bad (by rw[hab,bad2 c3,Bool.and_false]);simp[Def.cells,h1,h2,h11,h12,h13,hB0,hn,hg,hmd,c,hi2,w,hlen,hfit,hat,c1,h1,h2,h11,h12,h13,h24,h25,h26,hB0,hn,hg,hmd,c2,hk2,w2,alen,afit,aat,c3,hq])
      simp[Def.cells,h1,h2,h11,h12,h13,hB0,hn,hg,hmd,c,hi2,w,hlen,hfit,hat,c1,h1,h2,h11,h12,h13,h24,h25,h26,hB0,hn,hg,hmd,c2,hk2,w2,alen,afit,aat,c3]
      exact⟨⟨k+1,hk2,by omega,good2 c3⟩,upTo_lt h26 (by simp) hk2⟩
    · have hk3:k=args.length:=by omega
      subst hk3
      have hq:=good (by rw[hab,c1,allUp_all hp2];rfl)
      simp[Def.cells,h1,h2,h11,h12,h13,hB0,hn,hg,hmd,c,hi2,w,hlen,hfit,hat,c1,h1,h2,h11,h12,h13,h24,h25,h26,hB0,hn,hg,hmd,c2]
      exact⟨⟨i+1,hi2,by omega,hq⟩,upTo_lt o13 (by simp) hi2⟩
  · have hi3:i=d.flds.length:=by omega
    subst hi3
    have hF:=allUp_all hp
    simp[Def.cells,h1,h2,h11,h12,h13,hB0,hn,hg,hmd,c]
    refine LoopT.round (fun E S=>∃ (k:Nat),(k≤d.words.length)∧E 1=some (.d (.pp [schD l] 0))∧E 2=some (.op 0 0)∧E 39=some (.d (namesD d.words))∧E 40=some (.d (dI d.words.length))∧E 41=some (.d (dI k))∧S.B 0=some ([.d (dS d.name), .d (dI d.kind), .d (fldsD d.flds), .d (namesD d.words)])∧(allUp (wordHere l d) d.words k)∧(1≤S.nx)) (upTo 41 d.words.length) ⟨0,by simp[Def.cells,h1,h2,h11,h12,h13,hB0,hn,hg,hmd,c];exact allUp_zero _ _⟩ ?_
    rintro E S hk ⟨k,hkl,h1,h2,h39,h40,h41,hB0,hp2,hx⟩
    have hn:S.n=55:=by first | (simpa using hk.n)|(have hh:=hk.n;simp[Def.cells,h1,h2,h11,h12,h13,hB0,hn,hg,hmd,c] at hh;exact hh)
    have hg:S.gl=gl:=by first | (simpa using hk.gl)|(have hh:=hk.gl;simp[Def.cells,h1,h2,h11,h12,h13,hB0,hn,hg,hmd,c] at hh;exact hh)
    have hmd:S.md=[]:=by first | (simpa using hk.md)|(have hh:=hk.md;simp[Def.cells,h1,h2,h11,h12,h13,hB0,hn,hg,hmd,c] at hh;exact hh)
    simp[Def.cells,h1,h2,h11,h12,h13,hB0,hn,hg,hmd,c,h1,h2,h39,h40,h41,hB0,hn,hg,hmd]
    have w2:=wrap64 (n:=(k:Int)+1) (by omega) (by omega)
    refine BrT.dec (fun c2=>?_) (fun c2=>?_)
    · have hk2:k<d.words.length:=by omega
      have bad2:=all_bad (p:=wordHere l d) hk2
      have good2:=all_take (p:=wordHere l d) hk2 hp2
      simp[Def.cells,h1,h2,h11,h12,h13,hB0,hn,hg,hmd,c,h1,h2,h39,h40,h41,hB0,hn,hg,hmd,c2,hk2,w2]
      have hH:=p_hereB (gl:=gl) l (d.words[k])
      refine BrT.dec (fun k4=>?_) (fun k4=>?_)
      · simp[Def.cells,h1,h2,h11,h12,h13,hB0,hn,hg,hmd,c,h1,h2,h39,h40,h41,hB0,hn,hg,hmd,c2,hk2,w2,k4]
        repeat refine⟨DrawT.mk (by kernel_rfl),?_⟩
        refine CallT.p0 (hH) (by first | rfl | (simp;done)|(simp[Def.cells,h1,h2,h11,h12,h13,hB0,hn,hg,hmd,c,h1,h2,h39,h40,h41,hB0,hn,hg,hmd,c2,hk2,w2,k4];done)) (by first | rfl | (simp;done)|(simp;rfl)|(simp[Def.cells,h1,h2,h11,h12,h13,hB0,hn,hg,hmd,c,h1,h2,h39,h40,h41,hB0,hn,hg,hmd,c2,hk2,w2,k4];done)) ?_
        simp[Def.cells,h1,h2,h11,h12,h13,hB0,hn,hg,hmd,c,h1,h2,h39,h40,h41,hB0,hn,hg,hmd,c2,hk2,w2,k4]
        refine BrT.mk (fun c3=>?_) (fun c3=>?_)
        case refine_2=>(have hb:defHere l d=false:=(by unfold defHere;rw[bad2 (by simp[wordHere,k4,c3]),Bool.and_false]);simp[Def.cells,h1,h2,h11,h12,h13,hB0,hn,hg,hmd,c,h1,h2,h39,h40,h41,hB0,hn,hg,hmd,c2,hk2,w2,k4,c3,hb])
        simp[Def.cells,h1,h2,h11,h12,h13,hB0,hn,hg,hmd,c,h1,h2,h39,h40,h41,hB0,hn,hg,hmd,c2,hk2,w2,k4,c3]
        exact⟨⟨k+1,hk2,by omega,good2 (by simp[wordHere,k4,c3])⟩,upTo_lt h41 (by simp) hk2⟩
      · simp[Def.cells,h1,h2,h11,h12,h13,hB0,hn,hg,hmd,c,h1,h2,h39,h40,h41,hB0,hn,hg,hmd,c2,hk2,w2,k4]
        exact⟨⟨k+1,hk2,by omega,good2 (by simp[wordHere,k4])⟩,upTo_lt h41 (by simp) hk2⟩
    · have hk3:k=d.words.length:=by omega
      subst hk3
      have hb:defHere l d=true:=by unfold defHere;rw[hF,allUp_all hp2];rfl
      simp[Def.cells,h1,h2,h11,h12,h13,hB0,hn,hg,hmd,c,h1,h2,h39,h40,h41,hB0,hn,hg,hmd,c2,hb]
set_option maxHeartbeats 2000000 in
theorem p_allThere (l:List Def) (hok:∀ d∈l,DefOk d) (hd:∀ d∈l,defB d=true):PCall Tryz.prog gl 64 [schD l] (dB (l.all (defHere l))):=by
  have h:=p_eachDef (gl:=gl) l 158 [.pp [schD l] 0] (defHere l) fun d hm=>p_here1 l d (hok d hm) (hd d hm)
  refine PCall.by_ (md:=[]) Tryz.func64 rfl (by kernel_rfl) (n:=6) Tryz.ntmps64 (by simp) (by decide) rfl ?_
  simp
  refine CallT.l (LCall.ofP (k:=9) h (by simp)) rfl ?_
  simp
def placeB (l:List Def) (kind:Int) (s:ByteArray):Bool:=!(decide (kind=3) && !givenB l s || decide (kind=1) && !outB l s)
def fldPlaced (l:List Def) (d:Def) (f:Fld):Bool:=placeB l d.kind (baseT f.ty)&&f.args.all fun a=>givenB l (baseT a.ty)
def wordPlaced (l:List Def) (d:Def) (w:ByteArray):Bool:=!(decide (d.kind=4) && !decide (kindL l w=1))
def defPlaced (l:List Def) (d:Def):Bool:=d.flds.all (fldPlaced l d)&&d.words.all (wordPlaced l d)
set_option maxHeartbeats 4000000 in
theorem p_placed1 (l:List Def) (d:Def) (hok:DefOk d) (hd:defB d=true):PCall Tryz.prog gl 160 [d.d, .pp [schD l] 0] (dB (defPlaced l d)):=by
  refine PCall.by_ (md:=[]) Tryz.func160 rfl (by kernel_rfl) (n:=73) Tryz.ntmps160 (by simp) (by decide) rfl ?_
  simp[Def.cells]
  have hfl:=hok.2.1.1
  have hwl:=hok.2.2.1
  refine LoopT.round (fun E S=>∃ (i:Nat),(i≤d.flds.length)∧E 1=some (.d (.pp [schD l] 0))∧E 2=some (.op 0 0)∧E 12=some (.d (fldsD d.flds))∧E 13=some (.d (dI d.flds.length))∧E 14=some (.d (dI i))∧S.B 0=some ([.d (dS d.name), .d (dI d.kind), .d (fldsD d.flds), .d (namesD d.words)])∧(allUp (fldPlaced l d) d.flds i)∧(1≤S.nx)) (upTo 14 d.flds.length) ⟨0,by simp[Def.cells];exact allUp_zero _ _⟩ ?_
  rintro E S hk ⟨i,hi,h1,h2,h12,h13,h14,hB0,hp,hx⟩
  have hn:S.n=73:=by first | (simpa using hk.n)|(have hh:=hk.n;simp[Def.cells] at hh;exact hh)
  have hg:S.gl=gl:=by first | (simpa using hk.gl)|(have hh:=hk.gl;simp[Def.cells] at hh;exact hh)
  have hmd:S.md=[]:=by first | (simpa using hk.md)|(have hh:=hk.md;simp[Def.cells] at hh;exact hh)
  simp[Def.cells,h1,h2,h12,h13,h14,hB0,hn,hg,hmd]
  have w:=wrap64 (n:=(i:Int)+1) (by omega) (by omega)
  refine BrT.dec (fun c=>?_) (fun c=>?_)
  · have hi2:i<d.flds.length:=by omega
    have hlen:=flds_len d.flds
    have hfit:i*5+5≤d.flds.length*5:=by omega
    have hN:=fld_of hd _ (List.getElem_mem hi2)
    have hO:=hok.2.1.2 _ (List.getElem_mem hi2)
    have bad:fldPlaced l d d.flds[i]=false→defPlaced l d=false:=fun h=>by unfold defPlaced;rw[all_bad hi2 h];rfl
    have good:=all_take (p:=fldPlaced l d) hi2 hp
    have hat:=flds_at d.flds hi2
    generalize hav:d.flds[i]=a at hN hO bad good hat
    have hab:fldPlaced l d a=(placeB l d.kind (baseT a.ty)&&a.args.all fun a=>givenB l (baseT a.ty)):=rfl
    have hT:=p_baseOf (gl:=gl) a.ty 3 hN.1
    obtain⟨nm,args,ty⟩:=a
    obtain⟨hN1,hN2⟩:=hN
    have hal:=hO.2.1.1
    simp only at hN1 hN2 hal hab
    cases ty with
    | mk t lt b =>
    simp only[Fld.cells,Typ.cells] at hat
    simp[Def.cells,h1,h2,h12,h13,h14,hB0,hn,hg,hmd,c,hi2,w,hlen,hfit,hat]
    repeat refine⟨DrawT.mk (by kernel_rfl),?_⟩
    refine CallT.p0 (hT) (by first | rfl | (simp;done)|(simp[Def.cells,h1,h2,h12,h13,h14,hB0,hn,hg,hmd,c,hi2,w,hlen,hfit,hat];done)) (by first | rfl | (simp;done)|(simp;rfl)|(simp[Def.cells,h1,h2,h12,h13,h14,hB0,hn,hg,hmd,c,hi2,w,hlen,hfit,hat];done)) ?_
    simp[Def.cells,h1,h2,h12,h13,h14,hB0,hn,hg,hmd,c,hi2,w,hlen,hfit,hat]
    have hP:placeB l d.kind (baseT (.mk t lt b))=false→defPlaced l d=false:=fun h=>bad (by rw[hab,h];rfl)
    refine BrT.dec (fun k3=>?_) (fun k3=>?_)
    case' refine_1 =>
      simp[Def.cells,h1,h2,h12,h13,h14,hB0,hn,hg,hmd,c,hi2,w,hlen,hfit,hat,k3]
      repeat refine⟨DrawT.mk (by kernel_rfl),?_⟩
      refine CallT.p0 (p_isGivenIn l (baseT (.mk t lt b))) (by first | rfl | (simp;done)|(simp[Def.cells,h1,h2,h12,h13,h14,hB0,hn,hg,hmd,c,hi2,w,hlen,hfit,hat,k3];done)) (by first | rfl | (simp;done)|(simp;rfl)|(simp[Def.cells,h1,h2,h12,h13,h14,hB0,hn,hg,hmd,c,hi2,w,hlen,hfit,hat,k3];done)) ?_
      simp[Def.cells,h1,h2,h12,h13,h14,hB0,hn,hg,hmd,c,hi2,w,hlen,hfit,hat,k3]
      refine BrT.mk (fun c0=>?_) (fun c0=>?_)
      case refine_2=>(have hq:=hP (by simp[placeB,k3,c0]);simp[Def.cells,h1,h2,h12,h13,h14,hB0,hn,hg,hmd,c,hi2,w,hlen,hfit,hat,k3,c0,hq])
      have c1:placeB l d.kind (baseT (.mk t lt b))=true:=by simp[placeB,k3,c0]
      simp[Def.cells,h1,h2,h12,h13,h14,hB0,hn,hg,hmd,c,hi2,w,hlen,hfit,hat,k3,c0]
    case' refine_2 =>
      simp[Def.cells,h1,h2,h12,h13,h14,hB0,hn,hg,hmd,c,hi2,w,hlen,hfit,hat,k3]
      refine BrT.dec (fun k1=>?_) (fun k1=>?_)
      case' refine_1 =>
        simp[Def.cells,h1,h2,h12,h13,h14,hB0,hn,hg,hmd,c,hi2,w,hlen,hfit,hat,k3,k1]
        repeat refine⟨DrawT.mk (by kernel_rfl),?_⟩
        refine CallT.p0 (p_comesOut l (baseT (.mk t lt b))) (by first | rfl | (simp;done)|(simp[Def.cells,h1,h2,h12,h13,h14,hB0,hn,hg,hmd,c,hi2,w,hlen,hfit,hat,k3,k1];done)) (by first | rfl | (simp;done)|(simp;rfl)|(simp[Def.cells,h1,h2,h12,h13,h14,hB0,hn,hg,hmd,c,hi2,w,hlen,hfit,hat,k3,k1];done)) ?_
        simp[Def.cells,h1,h2,h12,h13,h14,hB0,hn,hg,hmd,c,hi2,w,hlen,hfit,hat,k3,k1]
        refine BrT.mk (fun c0=>?_) (fun c0=>?_)
        case refine_2=>(have hq:=hP (by simp[placeB,k1,c0]);simp[Def.cells,h1,h2,h12,h13,h14,hB0,hn,hg,hmd,c,hi2,w,hlen,hfit,hat,k3,k1,c0,hq])
        have c1:placeB l d.kind (baseT (.mk t lt b))=true:=by simp[placeB,k1,c0]
        simp[Def.cells,h1,h2,h12,h13,h14,hB0,hn,hg,hmd,c,hi2,w,hlen,hfit,hat,k3,k1,c0]
      case' refine_2 =>
        have c1:placeB l d.kind (baseT (.mk t lt b))=true:=by simp[placeB,k1,k3]
        simp[Def.cells,h1,h2,h12,h13,h14,hB0,hn,hg,hmd,c,hi2,w,hlen,hfit,hat,k3,k1]
    all_goals
      have o14:=h14
      refine LoopT.round (fun E S=>∃ (k:Nat),(k≤args.length)∧E 1=some (.d (.pp [schD l] 0))∧E 2=some (.op 0 0)∧E 12=some (.d (fldsD d.flds))∧E 13=some (.d (dI d.flds.length))∧E 14=some (.d (dI i))∧E 42=some (.d (argsD args))∧E 43=some (.d (dI args.length))∧E 44=some (.d (dI k))∧S.B 0=some ([.d (dS d.name), .d (dI d.kind), .d (fldsD d.flds), .d (namesD d.words)])∧(allUp (fun a:Arg=>givenB l (baseT a.ty)) args k)∧(1≤S.nx)) (upTo 44 args.length) ⟨0,by simp[Def.cells,h1,h2,h12,h13,h14,hB0,hn,hg,hmd,c,hi2,w,hlen,hfit,hat,k3];exact allUp_zero _ _⟩ ?_
      rintro E S hk ⟨k,hkl,h1,h2,h12,h13,h14,h42,h43,h44,hB0,hp2,hx⟩
      have hn:S.n=73:=by first | (simpa using hk.n)|(have hh:=hk.n;simp[Def.cells,h1,h2,h12,h13,h14,hB0,hn,hg,hmd,c,hi2,w,hlen,hfit,hat,k3] at hh;exact hh)
      have hg:S.gl=gl:=by first | (simpa using hk.gl)|(have hh:=hk.gl;simp[Def.cells,h1,h2,h12,h13,h14,hB0,hn,hg,hmd,c,hi2,w,hlen,hfit,hat,k3] at hh;exact hh)
      have hmd:S.md=[]:=by first | (simpa using hk.md)|(have hh:=hk.md;simp[Def.cells,h1,h2,h12,h13,h14,hB0,hn,hg,hmd,c,hi2,w,hlen,hfit,hat,k3] at hh;exact hh)
      simp[Def.cells,h1,h2,h12,h13,h14,hB0,hn,hg,hmd,c,hi2,w,hlen,hfit,hat,k3,h1,h2,h12,h13,h14,h42,h43,h44,hB0,hn,hg,hmd]
      have w2:=wrap64 (n:=(k:Int)+1) (by omega) (by omega)
      refine BrT.dec (fun c2=>?_) (fun c2=>?_)
      · have hk2:k<args.length:=by omega
        have alen:=args_len args
        have afit:k*10+10≤args.length*10:=by omega
        have bad2:=all_bad (p:=fun a:Arg=>givenB l (baseT a.ty)) hk2
        have good2:=all_take (p:=fun a:Arg=>givenB l (baseT a.ty)) hk2 hp2
        have aat:=args_at args hk2
        have hA:=typ_of (hN2 _ (List.getElem_mem hk2))
        generalize args[k]=x at bad2 good2 aat hA
        have hT2:=p_baseOf (gl:=gl) x.ty 3 hA
        obtain⟨xn,xt,xh,xe⟩:=x
        simp only at bad2 good2 hT2
        cases xt with
        | mk t2 l2 b2 =>
        cases xe with
        | mk =>
        simp only[Arg.cells,Typ.cells,Val.cells] at aat
        simp[Def.cells,h1,h2,h12,h13,h14,hB0,hn,hg,hmd,c,hi2,w,hlen,hfit,hat,k3,h1,h2,h12,h13,h14,h42,h43,h44,hB0,hn,hg,hmd,c2,hk2,w2,alen,afit,aat]
        repeat refine⟨DrawT.mk (by kernel_rfl),?_⟩
        refine CallT.p0 (hT2) (by first | rfl | (simp;done)|(simp[Def.cells,h1,h2,h12,h13,h14,hB0,hn,hg,hmd,c,hi2,w,hlen,hfit,hat,k3,h1,h2,h12,h13,h14,h42,h43,h44,hB0,hn,hg,hmd,c2,hk2,w2,alen,afit,aat];done)) (by first | rfl | (simp;done)|(simp;rfl)|(simp[Def.cells,h1,h2,h12,h13,h14,hB0,hn,hg,hmd,c,hi2,w,hlen,hfit,hat,k3,h1,h2,h12,h13,h14,h42,h43,h44,hB0,hn,hg,hmd,c2,hk2,w2,alen,afit,aat];done)) ?_
        simp[Def.cells,h1,h2,h12,h13,h14,hB0,hn,hg,hmd,c,hi2,w,hlen,hfit,hat,k3,h1,h2,h12,h13,h14,h42,h43,h44,hB0,hn,hg,hmd,c2,hk2,w2,alen,afit,aat]
        repeat refine⟨DrawT.mk (by kernel_rfl),?_⟩
        refine CallT.p0 (p_isGivenIn l (baseT (.mk t2 l2 b2))) (by first | rfl | (simp;done)|(simp[Def.cells,h1,h2,h12,h13,h14,hB0,hn,hg,hmd,c,hi2,w,hlen,hfit,hat,k3,h1,h2,h12,h13,h14,h42,h43,h44,hB0,hn,hg,hmd,c2,hk2,w2,alen,afit,aat];done)) (by first | rfl | (simp;done)|(simp;rfl)|(simp[Def.cells,h1,h2,h12,h13,h14,hB0,hn,hg,hmd,c,hi2,w,hlen,hfit,hat,k3,h1,h2,h12,h13,h14,h42,h43,h44,hB0,hn,hg,hmd,c2,hk2,w2,alen,afit,aat];done)) ?_
        simp[Def.cells,h1,h2,h12,h13,h14,hB0,hn,hg,hmd,c,hi2,w,hlen,hfit,hat,k3,h1,h2,h12,h13,h14,h42,h43,h44,hB0,hn,hg,hmd,c2,hk2,w2,alen,afit,aat]
        refine BrT.mk (fun c3=>?_) (fun c3=>?_)
        case refine_2=>(have hq:=bad (by rw[hab,bad2 c3,Bool.and_false]);simp[Def.cells,h1,h2,h12,h13,h14,hB0,hn,hg,hmd,c,hi2,w,hlen,hfit,hat,k3,h1,h2,h12,h13,h14,h42,h43,h44,hB0,hn,hg,hmd,c2,hk2,w2,alen,afit,aat,c3,hq])
        simp[Def.cells,h1,h2,h12,h13,h14,hB0,hn,hg,hmd,c,hi2,w,hlen,hfit,hat,k3,h1,h2,h12,h13,h14,h42,h43,h44,hB0,hn,hg,hmd,c2,hk2,w2,alen,afit,aat,c3]
        exact⟨⟨k+1,hk2,by omega,good2 c3⟩,upTo_lt h44 (by simp) hk2⟩
      · have hk3:k=args.length:=by omega
        subst hk3
        have hq:=good (by rw[hab,c1,allUp_all hp2];rfl)
        simp[Def.cells,h1,h2,h12,h13,h14,hB0,hn,hg,hmd,c,hi2,w,hlen,hfit,hat,k3,h1,h2,h12,h13,h14,h42,h43,h44,hB0,hn,hg,hmd,c2]
        refine⟨⟨i+1,hi2,by omega,?_⟩,upTo_lt o14 (by simp) hi2⟩
        first | exact hq | exact⟨k1,hq⟩ | exact⟨k3,hq⟩
  · have hi3:i=d.flds.length:=by omega
    subst hi3
    have hF:=allUp_all hp
    simp[Def.cells,h1,h2,h12,h13,h14,hB0,hn,hg,hmd,c]
    refine LoopT.round (fun E S=>∃ (k:Nat),(k≤d.words.length)∧E 1=some (.d (.pp [schD l] 0))∧E 2=some (.op 0 0)∧E 57=some (.d (namesD d.words))∧E 58=some (.d (dI d.words.length))∧E 59=some (.d (dI k))∧S.B 0=some ([.d (dS d.name), .d (dI d.kind), .d (fldsD d.flds), .d (namesD d.words)])∧(allUp (wordPlaced l d) d.words k)∧(1≤S.nx)) (upTo 59 d.words.length) ⟨0,by simp[Def.cells,h1,h2,h12,h13,h14,hB0,hn,hg,hmd,c];exact allUp_zero _ _⟩ ?_
    rintro E S hk ⟨k,hkl,h1,h2,h57,h58,h59,hB0,hp2,hx⟩
    have hn:S.n=73:=by first | (simpa using hk.n)|(have hh:=hk.n;simp[Def.cells,h1,h2,h12,h13,h14,hB0,hn,hg,hmd,c] at hh;exact hh)
    have hg:S.gl=gl:=by first | (simpa using hk.gl)|(have hh:=hk.gl;simp[Def.cells,h1,h2,h12,h13,h14,hB0,hn,hg,hmd,c] at hh;exact hh)
    have hmd:S.md=[]:=by first | (simpa using hk.md)|(have hh:=hk.md;simp[Def.cells,h1,h2,h12,h13,h14,hB0,hn,hg,hmd,c] at hh;exact hh)
    simp[Def.cells,h1,h2,h12,h13,h14,hB0,hn,hg,hmd,c,h1,h2,h57,h58,h59,hB0,hn,hg,hmd]
    have w2:=wrap64 (n:=(k:Int)+1) (by omega) (by omega)
    refine BrT.dec (fun c2=>?_) (fun c2=>?_)
    · have hk2:k<d.words.length:=by omega
      have bad2:=all_bad (p:=wordPlaced l d) hk2
      have good2:=all_take (p:=wordPlaced l d) hk2 hp2
      simp[Def.cells,h1,h2,h12,h13,h14,hB0,hn,hg,hmd,c,h1,h2,h57,h58,h59,hB0,hn,hg,hmd,c2,hk2,w2]
      have hH:=p_isObject (gl:=gl) l (d.words[k])
      refine BrT.dec (fun k4=>?_) (fun k4=>?_)
      · simp[Def.cells,h1,h2,h12,h13,h14,hB0,hn,hg,hmd,c,h1,h2,h57,h58,h59,hB0,hn,hg,hmd,c2,hk2,w2,k4]
        repeat refine⟨DrawT.mk (by kernel_rfl),?_⟩
        refine CallT.p0 (hH) (by first | rfl | (simp;done)|(simp[Def.cells,h1,h2,h12,h13,h14,hB0,hn,hg,hmd,c,h1,h2,h57,h58,h59,hB0,hn,hg,hmd,c2,hk2,w2,k4];done)) (by first | rfl | (simp;done)|(simp;rfl)|(simp[Def.cells,h1,h2,h12,h13,h14,hB0,hn,hg,hmd,c,h1,h2,h57,h58,h59,hB0,hn,hg,hmd,c2,hk2,w2,k4];done)) ?_
        simp[Def.cells,h1,h2,h12,h13,h14,hB0,hn,hg,hmd,c,h1,h2,h57,h58,h59,hB0,hn,hg,hmd,c2,hk2,w2,k4]
        refine BrT.mk (fun c3=>?_) (fun c3=>?_)
        case refine_2=>(have hb:defPlaced l d=false:=(by unfold defPlaced;rw[bad2 (by simp[wordPlaced,k4,c3]),Bool.and_false]);simp[Def.cells,h1,h2,h12,h13,h14,hB0,hn,hg,hmd,c,h1,h2,h57,h58,h59,hB0,hn,hg,hmd,c2,hk2,w2,k4,c3,hb])
        simp[Def.cells,h1,h2,h12,h13,h14,hB0,hn,hg,hmd,c,h1,h2,h57,h58,h59,hB0,hn,hg,hmd,c2,hk2,w2,k4,c3]
        exact⟨⟨k+1,hk2,by omega,good2 (by simp[wordPlaced,k4,c3])⟩,upTo_lt h59 (by simp) hk2⟩
      · simp[Def.cells,h1,h2,h12,h13,h14,hB0,hn,hg,hmd,c,h1,h2,h57,h58,h59,hB0,hn,hg,hmd,c2,hk2,w2,k4]
        exact⟨⟨k+1,hk2,by omega,good2 (by simp[wordPlaced,k4])⟩,upTo_lt h59 (by simp) hk2⟩
    · have hk3:k=d.words.length:=by omega
      subst hk3
      have hb:defPlaced l d=true:=by unfold defPlaced;rw[hF,allUp_all hp2];rfl
      simp[Def.cells,h1,h2,h12,h13,h14,hB0,hn,hg,hmd,c,h1,h2,h57,h58,h59,hB0,hn,hg,hmd,c2,hb]
set_option maxHeartbeats 2000000 in
theorem p_allPlaced (l:List Def) (hok:∀ d∈l,DefOk d) (hd:∀ d∈l,defB d=true):PCall Tryz.prog gl 65 [schD l] (dB (l.all (defPlaced l))):=by
  have h:=p_eachDef (gl:=gl) l 160 [.pp [schD l] 0] (defPlaced l) fun d hm=>p_placed1 l d (hok d hm) (hd d hm)
  refine PCall.by_ (md:=[]) Tryz.func65 rfl (by kernel_rfl) (n:=6) Tryz.ntmps65 (by simp) (by decide) rfl ?_
  simp
  refine CallT.l (LCall.ofP (k:=9) h (by simp)) rfl ?_
  simp
abbrev queryS:ByteArray:=⟨#[81,117,101,114,121]⟩
abbrev mutS:ByteArray:=⟨#[77,117,116,97,116,105,111,110]⟩
def rootsB (l:List Def):Bool:=decide (kindL l queryS=1)&&(!(atD l mutS).isSome || decide (kindL l mutS=1))
set_option maxHeartbeats 2000000 in
theorem p_hasRoots (l:List Def):PCall Tryz.prog gl 66 [schD l] (dB (rootsB l)):=by
  have main:∀ r b,lookS Tryz.prog 98 (ksD l) (l.map (SV.d∘Def.d)) mutS true=some (.tu [r, .d (.v (.bool b))])→b=(atD l mutS).isSome→(r.one=true∧r.cells.length=4)→PCall Tryz.prog gl 66 [schD l] (dB (rootsB l)):=fun r b h1 h2 h3=>by
    refine PCall.by_ (md:=[]) Tryz.func66 rfl (by kernel_rfl) (n:=20) Tryz.ntmps66 (by simp) (by decide) rfl ?_
    simp
    refine⟨_,h1,?_⟩
    have hb:rootsB l=(decide (kindL l queryS=1)&&(!b || decide (kindL l mutS=1))):=by rw[h2];rfl
    simp[hb]
    refine⟨h3,?_⟩
    repeat refine⟨DrawT.mk (by kernel_rfl),?_⟩
    refine CallT.p0 (p_isObject l queryS) (by first | rfl | (simp;done)|(simp[hb];done)) (by first | rfl | (simp;done)|(simp;rfl)|(simp[hb];done)) ?_
    simp[hb]
    refine BrT.dec (fun g=>?_) (fun g=>?_)
    · simp[hb,g]
      refine BrT.mk (fun g2=>?_) (fun g2=>?_)
      case refine_2=>simp[hb,g,g2]
      simp[hb,g,g2]
      repeat refine⟨DrawT.mk (by kernel_rfl),?_⟩
      refine CallT.p0 (p_isObject l mutS) (by first | rfl | (simp;done)|(simp[hb,g,g2];done)) (by first | rfl | (simp;done)|(simp;rfl)|(simp[hb,g,g2];done)) ?_
      simp[hb,g,g2]
    · simp[hb,g]
  cases h:atD l mutS with
  | none=>exact main _ false (look_none h) (by rw[h];rfl) ⟨rfl,rfl⟩
  | some j=>exact main _ true (look_some h) (by rw[h];rfl) ⟨rfl,by simp[dcells_len]⟩
abbrev intS:ByteArray:=⟨#[73,110,116]⟩
abbrev strS:ByteArray:=⟨#[83,116,114,105,110,103]⟩
abbrev boolS:ByteArray:=⟨#[66,111,111,108,101,97,110]⟩
abbrev idS:ByteArray:=⟨#[73,68]⟩
abbrev fnD (f:FuncId) (caps:List D):D:=.fn (.func f) [] caps
def somD (l:List Def) (t:ByteArray):D :=
  if t=intS then fnD 244 [] else if t=strS then fnD 245 []
  else if t=boolS then fnD 246 [] else if t=idS then fnD 247 []
  else if kindL l t=2 then fnD 248 [.pp (defL l t).cells 0]
  else if kindL l t=3 then fnD 287 [.pp (defL l t).cells 0, .pp [schD l] 0]
  else fnD 250 []
def takD (l:List Def):Typ→D
  | .mk t lt b=>fnD 174 [.pp (Typ.mk t lt b).cells 0, .pp [if t=noS then (match lt with | x::_=>fnD 286 [.pp [takD l x] 0] | []=>fnD 250 []) else somD l t] 0]
def tsomD (l:List Def):Typ→D
  | .mk t lt b=>if t=noS then (match lt with | x::_=>fnD 286 [.pp [takD l x] 0] | []=>fnD 250 []) else somD l t
theorem takD_eq (l:List Def) (v:Typ):takD l v=fnD 174 [.pp v.cells 0, .pp [tsomD l v] 0]:=by
  cases v;unfold takD;rfl
theorem som_fn (l:List Def) (t:ByteArray):∃ f caps,somD l t=fnD f caps:=by
  unfold somD
  repeat' split
  all_goals exact⟨_,_,rfl⟩
theorem tsom_fn (l:List Def) (v:Typ):∃ f caps,tsomD l v=fnD f caps:=by
  cases v with
  | mk t lt b =>
    by_cases h:t=noS
    · cases lt with
      | nil=>exact⟨_,_,if_pos h⟩
      | cons x r=>exact⟨_,_,if_pos h⟩
    · obtain⟨f,c,e⟩:=som_fn l t
      exact⟨f,c,(if_neg h).trans e⟩
set_option maxHeartbeats 2000000 in
theorem p_takesList (f:FuncId) (caps:List D):PCall Tryz.prog gl 243 [fnD f caps] (fnD 286 [.pp [fnD f caps] 0]):=by
  refine PCall.by_ (md:=[]) Tryz.func243 rfl (by kernel_rfl) (n:=4) Tryz.ntmps243 (by simp) (by decide) rfl ?_
  simp
set_option maxHeartbeats 2000000 in
theorem p_takes_of (l:List Def) (v:Typ) (h:PCall Tryz.prog gl 173 [schD l,v.d] (tsomD l v)):PCall Tryz.prog gl 80 [schD l,v.d] (takD l v):=by
  rw[takD_eq]
  cases hv:v with
  | mk t lt b =>
  rw[hv] at h
  obtain⟨f,caps,hf⟩:=tsom_fn l (.mk t lt b)
  rw[hf] at h ⊢
  refine PCall.by_ (md:=[]) Tryz.func80 rfl (by kernel_rfl) (n:=10) Tryz.ntmps80 (by simp) (by decide) rfl ?_
  simp[Typ.cells]
  repeat refine⟨DrawT.mk (by kernel_rfl),?_⟩
  refine CallT.p0 (h) (by first | rfl | (simp;done)|(simp[Typ.cells];done)) (by first | rfl | (simp;done)|(simp;rfl)|(simp[Typ.cells];done)) ?_
  simp[Typ.cells]
set_option maxHeartbeats 2000000 in
theorem p_takesTree (l:List Def) (d:Def):PCall Tryz.prog gl 249 [schD l,d.d] (fnD 287 [.pp d.cells 0, .pp [schD l] 0]):=by
  refine PCall.by_ (md:=[]) Tryz.func249 rfl (by kernel_rfl) (n:=6) Tryz.ntmps249 (by simp) (by decide) rfl ?_
  simp[Def.cells]
theorem takD_fn (l:List Def) (v:Typ):∃ caps,takD l v=fnD 174 caps:=⟨_,takD_eq l v⟩
set_option maxHeartbeats 4000000 in
theorem p_takesSome (l:List Def) (v:Typ) (d:Nat) (hv:typB v d=true):PCall Tryz.prog gl 173 [schD l,v.d] (tsomD l v):=by
  cases d with
  | zero=>simp[typB] at hv
  | succ d =>
  cases hvv:v with
  | mk t lt b =>
  rw[hvv] at hv
  unfold typB at hv
  have ih:∀ x,typB x d=true→PCall Tryz.prog gl 80 [schD l,x.d] (takD l x):=fun x hx=>p_takes_of l x (p_takesSome l x d hx)
  by_cases ht:t=noS
  · subst ht
    rw[if_pos rfl] at hv
    match lt,hv with
    | [x],hv =>
      simp only at hv
      have ih:=ih x hv
      obtain⟨c,hc⟩:=takD_fn l x
      have hr:tsomD l (.mk noS [x] b)=fnD 286 [.pp [fnD 174 c] 0]:=by rw[← hc];unfold tsomD;simp only;exact if_pos trivial
      rw[hr]
      rw[hc] at ih
      cases x with
      | mk t2 l2 b2 =>
      refine PCall.by_ (md:=[]) Tryz.func173 rfl (by kernel_rfl) (n:=39) Tryz.ntmps173 (by simp) (by decide) rfl ?_
      simp[Typ.cells,typsCells]
      repeat refine⟨DrawT.mk (by kernel_rfl),?_⟩
      refine CallT.p0 (ih) (by first | rfl | (simp;done)|(simp[Typ.cells,typsCells];done)) (by first | rfl | (simp;done)|(simp;rfl)|(simp[Typ.cells,typsCells];done)) ?_
      simp[Typ.cells,typsCells]
      repeat refine⟨DrawT.mk (by kernel_rfl),?_⟩
      refine CallT.p0 (p_takesList 174 c) (by first | rfl | (simp;done)|(simp[Typ.cells,typsCells];done)) (by first | rfl | (simp;done)|(simp;rfl)|(simp[Typ.cells,typsCells];done)) ?_
      simp[Typ.cells,typsCells]
    | [],hv=>simp at hv
    | x::y::r,hv=>simp at hv
  · have hr:tsomD l (.mk t lt b)=somD l t:=if_neg ht
    rw[hr]
    refine PCall.by_ (md:=[]) Tryz.func173 rfl (by kernel_rfl) (n:=39) Tryz.ntmps173 (by simp) (by decide) rfl ?_
    simp[Typ.cells,ht]
    refine BrT.dec (fun c1=>?_) (fun c1=>?_)
    · simp[Typ.cells,ht,c1]
      simp[somD]
    simp[Typ.cells,ht,c1]
    refine BrT.dec (fun c2=>?_) (fun c2=>?_)
    · simp[Typ.cells,ht,c1,c2]
      simp[somD]
    simp[Typ.cells,ht,c1,c2]
    refine BrT.dec (fun c3=>?_) (fun c3=>?_)
    · simp[Typ.cells,ht,c1,c2,c3]
      simp[somD]
    simp[Typ.cells,ht,c1,c2,c3]
    refine BrT.dec (fun c4=>?_) (fun c4=>?_)
    · simp[Typ.cells,ht,c1,c2,c3,c4]
      simp[somD]
    have hs:somD l t=if kindL l t=2 then fnD 248 [.pp (defL l t).cells 0]
      else if kindL l t=3 then fnD 287 [.pp (defL l t).cells 0, .pp [schD l] 0]
      else fnD 250 []:=by unfold somD;rw[if_neg c1,if_neg c2,if_neg c3,if_neg c4]
    simp[Typ.cells,ht,c1,c2,c3,c4]
    cases hk:atD l t with
    | none =>
      have hk2:kindL l t=0:=by rw[kindL,defL_none hk];rfl
      rw[hk2] at hs
      refine⟨_,look_none hk,?_⟩
      simp[Typ.cells,ht,c1,c2,c3,c4]
      rw[hs]
      rfl
    | some j =>
      refine⟨_,look_some hk,?_⟩
      have hkl:kindL l t=(defL l t).kind:=rfl
      rw[hkl] at hs
      simp[Typ.cells,ht,c1,c2,c3,c4,Def.cells]
      refine BrT.dec (fun k2=>?_) (fun k2=>?_)
      · simp[Typ.cells,ht,c1,c2,c3,c4,Def.cells,k2]
        rw[hs,if_pos k2];simp[Def.cells,k2]
      simp[Typ.cells,ht,c1,c2,c3,c4,Def.cells,k2]
      refine BrT.dec (fun k3=>?_) (fun k3=>?_)
      · simp[Typ.cells,ht,c1,c2,c3,c4,Def.cells,k2,k3]
        have h5:=p_takesTree (gl:=gl) l (defL l t)
        simp only[Def.d,Def.cells,k3,List.map] at h5
        repeat refine⟨DrawT.mk (by kernel_rfl),?_⟩
        refine CallT.p0 (h5) (by first | rfl | (simp;done)|(simp[Typ.cells,ht,c1,c2,c3,c4,Def.cells,k2,k3];done)) (by first | rfl | (simp;done)|(simp;rfl)|(simp[Typ.cells,ht,c1,c2,c3,c4,Def.cells,k2,k3];done)) ?_
        simp[Typ.cells,ht,c1,c2,c3,c4,Def.cells,k2,k3]
        rw[hs,if_neg k2,if_pos k3];simp[Def.cells,k3]
      simp[Typ.cells,ht,c1,c2,c3,c4,Def.cells,k2,k3]
      rw[hs,if_neg k2,if_neg k3]
  termination_by d
def fldAt (l:List Fld) (s:ByteArray):Option Fld:=l.find? fun f=>decide (f.name=s)
def zeroFld:Fld:=⟨noS,[], .mk noS [] false⟩
set_option maxHeartbeats 2000000 in
theorem p_fieldOf (l:List Fld) (s:ByteArray) (hl:l.length≤4611686018427387904):PCall Tryz.prog gl 259 [fldsD l,dS s] (.tup [((fldAt l s).getD zeroFld).d,dB (fldAt l s).isSome]):=by
  refine PCall.by_ (md:=[]) Tryz.func259 rfl (by kernel_rfl) (n:=21) Tryz.ntmps259 (by simp) (by decide) rfl ?_
  simp
  refine LoopT.round (fun E S=>∃ (i:Nat),(i≤l.length)∧E 1=some (.d (dS s))∧E 4=some (.op 0 0)∧E 8=some (.d (fldsD l))∧E 9=some (.d (dI l.length))∧E 10=some (.d (dI i))∧S.B 0=some ([.d (dS noS), .fl [] 0, .d (dS noS), .fl [] 0, .d (dB false)])∧(fldAt (l.drop i) s=fldAt l s)∧(1≤S.nx)) (upTo 10 l.length) ⟨0,by simp⟩ ?_
  rintro E S hk ⟨i,hi,h1,h4,h8,h9,h10,hB0,hp,hx⟩
  have hn:S.n=21:=by first | (simpa using hk.n)|(have hh:=hk.n;simp at hh;exact hh)
  have hg:S.gl=gl:=by first | (simpa using hk.gl)|(have hh:=hk.gl;simp at hh;exact hh)
  have hmd:S.md=[]:=by first | (simpa using hk.md)|(have hh:=hk.md;simp at hh;exact hh)
  simp[h1,h4,h8,h9,h10,hB0,hn,hg,hmd]
  have w:=wrap64 (n:=(i:Int)+1) (by omega) (by omega)
  refine BrT.dec (fun c=>?_) (fun c=>?_)
  · have hi2:i<l.length:=by omega
    have hlen:=flds_len l
    have hfit:i*5+5≤l.length*5:=by omega
    rw[List.drop_eq_getElem_cons hi2] at hp
    have hat:=flds_at l hi2
    generalize l[i]=a at hp hat
    obtain⟨nm,args,ty⟩:=a
    cases ty with
    | mk t lt b =>
    simp only[Fld.cells,Typ.cells] at hat
    simp[h1,h4,h8,h9,h10,hB0,hn,hg,hmd,c,hi2,w,hlen,hfit,hat]
    refine BrT.dec (fun e=>?_) (fun e=>?_)
    · simp[h1,h4,h8,h9,h10,hB0,hn,hg,hmd,c,hi2,w,hlen,hfit,hat,e]
      have hf:fldAt l s=some ⟨nm,args, .mk t lt b⟩:=by rw[← hp];unfold fldAt;rw[List.find?_cons_of_pos (by simp[e])]
      rw[hf]
      simp[Fld.cells,Typ.cells,e]
    · have hf:fldAt (l.drop (i+1)) s=fldAt l s:=by rw[← hp];unfold fldAt;rw[List.find?_cons_of_neg (by simp[e])]
      simp[h1,h4,h8,h9,h10,hB0,hn,hg,hmd,c,hi2,w,hlen,hfit,hat,e]
      exact⟨⟨i+1,hi2,by omega,hf⟩,upTo_lt h10 (by simp) hi2⟩
  · rw[List.drop_eq_nil_of_le (by omega)] at hp
    have hf:fldAt l s=none:=hp.symm
    simp[h1,h4,h8,h9,h10,hB0,hn,hg,hmd,c]
    rw[hf]
    exact⟨rfl,rfl⟩
set_option maxHeartbeats 4000000 in
theorem p_list1 (k n:Int) (t:ByteArray) (l:List Val) (ns:List ByteArray) (c:List D) (p:Val→Bool) (hl:l.length≤4611686018427387904) (h0:PCall Tryz.prog gl 174 ((Val.mk k n t l ns).d::c) (dB (p (.mk k n t l ns)))) (h:∀ w∈l,PCall Tryz.prog gl 174 (w.d::c) (dB (p w))):PCall Tryz.prog gl 286 [(Val.mk k n t l ns).d, .pp [fnD 174 c] 0] (dB (if k=4 then l.all p else p (.mk k n t l ns))):=by
  refine PCall.by_ (md:=[]) Tryz.func286 rfl (by kernel_rfl) (n:=24) Tryz.ntmps286 (by simp) (by decide) rfl ?_
  simp[Val.cells]
  refine BrT.dec (fun k4=>?_) (fun k4=>?_)
  · simp[Val.cells,k4]
    refine LoopT.round (fun E S=>∃ (i:Nat),(i≤l.length)∧E 1=some (.d (.pp [fnD 174 c] 0))∧E 13=some (.d (valsD l))∧E 14=some (.d (dI l.length))∧E 15=some (.d (dI i))∧(allUp p l i)∧(1≤S.nx)) (upTo 15 l.length) ⟨0,by simp[Val.cells,k4];exact allUp_zero _ _⟩ ?_
    rintro E S hk ⟨i,hi,h1,h13,h14,h15,hp,hx⟩
    have hn:S.n=24:=by first | (simpa using hk.n)|(have hh:=hk.n;simp[Val.cells,k4] at hh;exact hh)
    have hg:S.gl=gl:=by first | (simpa using hk.gl)|(have hh:=hk.gl;simp[Val.cells,k4] at hh;exact hh)
    have hmd:S.md=[]:=by first | (simpa using hk.md)|(have hh:=hk.md;simp[Val.cells,k4] at hh;exact hh)
    simp[Val.cells,k4,h1,h13,h14,h15,hn,hg,hmd]
    have w:=wrap64 (n:=(i:Int)+1) (by omega) (by omega)
    refine BrT.dec (fun c2=>?_) (fun c2=>?_)
    · have hi2:i<l.length:=by omega
      have hlen:=valsCells_len l
      have hfit:i*5+5≤l.length*5:=by omega
      have bad:=all_bad (p:=p) hi2
      have good:=all_take (p:=p) hi2 hp
      have hh:=h _ (List.getElem_mem hi2)
      have hat:=valsCells_at l hi2
      generalize l[i]=x at bad good hh hat
      simp[Val.cells,k4,h1,h13,h14,h15,hn,hg,hmd,c2,hi2,w,hlen,hfit,hat,cells_len]
      repeat refine⟨DrawT.mk (by kernel_rfl),?_⟩
      refine CallT.p0 (hh) (by first | rfl | (simp;done)|(simp[Val.cells,k4,h1,h13,h14,h15,hn,hg,hmd,c2,hi2,w,hlen,hfit,hat,cells_len];done)) (by first | rfl | (simp;done)|(simp;rfl)|(simp[Val.cells,k4,h1,h13,h14,h15,hn,hg,hmd,c2,hi2,w,hlen,hfit,hat,cells_len];done)) ?_
      simp[Val.cells,k4,h1,h13,h14,h15,hn,hg,hmd,c2,hi2,w,hlen,hfit,hat,cells_len]
      refine BrT.mk (fun c3=>?_) (fun c3=>?_)
      case refine_2=>(have hq:=bad c3;simp[Val.cells,k4,h1,h13,h14,h15,hn,hg,hmd,c2,hi2,w,hlen,hfit,hat,cells_len,c3,hq])
      simp[Val.cells,k4,h1,h13,h14,h15,hn,hg,hmd,c2,hi2,w,hlen,hfit,hat,cells_len,c3]
      exact⟨⟨i+1,hi2,by omega,good c3⟩,upTo_lt h15 (by simp) hi2⟩
    · have hi3:i=l.length:=by omega
      subst hi3
      have hq:l.all p=true:=allUp_all hp
      simp[Val.cells,k4,h1,h13,h14,h15,hn,hg,hmd,c2,hq]
  · simp[Val.cells,k4]
    repeat refine⟨DrawT.mk (by kernel_rfl),?_⟩
    refine CallT.p0 (h0) (by first | rfl | (simp;done)|(simp[Val.cells,k4];done)) (by first | rfl | (simp;done)|(simp;rfl)|(simp[Val.cells,k4];done)) ?_
    simp[Val.cells,k4]
theorem p_some1 (k n:Int) (t:ByteArray) (l:List Val) (ns:List ByteArray):PCall Tryz.prog gl 244 [(Val.mk k n t l ns).d] (dB (decide (k=2))):=by
  refine PCall.by_ (md:=[]) Tryz.func244 rfl (by kernel_rfl) (n:=6) Tryz.ntmps244 (by simp) (by decide) rfl ?_
  simp[Val.cells]
theorem p_some2 (k n:Int) (t:ByteArray) (l:List Val) (ns:List ByteArray):PCall Tryz.prog gl 245 [(Val.mk k n t l ns).d] (dB (decide (k=3))):=by
  refine PCall.by_ (md:=[]) Tryz.func245 rfl (by kernel_rfl) (n:=6) Tryz.ntmps245 (by simp) (by decide) rfl ?_
  simp[Val.cells]
theorem p_some3 (k n:Int) (t:ByteArray) (l:List Val) (ns:List ByteArray):PCall Tryz.prog gl 246 [(Val.mk k n t l ns).d] (dB (decide (k=1))):=by
  refine PCall.by_ (md:=[]) Tryz.func246 rfl (by kernel_rfl) (n:=6) Tryz.ntmps246 (by simp) (by decide) rfl ?_
  simp[Val.cells]
theorem p_some4 (k n:Int) (t:ByteArray) (l:List Val) (ns:List ByteArray):PCall Tryz.prog gl 247 [(Val.mk k n t l ns).d] (dB (decide (k=3) || decide (k=2))):=by
  refine PCall.by_ (md:=[]) Tryz.func247 rfl (by kernel_rfl) (n:=11) Tryz.ntmps247 (by simp) (by decide) rfl ?_
  simp[Val.cells]
  refine BrT.dec (fun k3=>?_) (fun k3=>?_)
  · simp[Val.cells,k3]
  · simp[Val.cells,k3]
theorem p_never (k n:Int) (t:ByteArray) (l:List Val) (ns:List ByteArray):PCall Tryz.prog gl 250 [(Val.mk k n t l ns).d] (dB false):=by
  refine PCall.by_ (md:=[]) Tryz.func250 rfl (by kernel_rfl) (n:=3) Tryz.ntmps250 (by simp) (by decide) rfl ?_
  simp[Val.cells]
theorem p_some5 (k n:Int) (t:ByteArray) (l:List Val) (ns:List ByteArray) (d:Def) (hw:d.words.length≤4611686018427387904):PCall Tryz.prog gl 248 [(Val.mk k n t l ns).d, .pp d.cells 0] (dB ((decide (k=7) || decide (k=3))&&memB t d.words)):=by
  refine PCall.by_ (md:=[]) Tryz.func248 rfl (by kernel_rfl) (n:=19) Tryz.ntmps248 (by simp) (by decide) rfl ?_
  simp[Val.cells,Def.cells]
  refine BrT.dec (fun k7=>?_) (fun k7=>?_)
  · simp[Val.cells,Def.cells,k7]
    repeat refine⟨DrawT.mk (by kernel_rfl),?_⟩
    refine CallT.p0 (p_Contains d.words t hw) (by first | rfl | (simp;done)|(simp[Val.cells,Def.cells,k7];done)) (by first | rfl | (simp;done)|(simp;rfl)|(simp[Val.cells,Def.cells,k7];done)) ?_
    simp[Val.cells,Def.cells,k7]
  · simp[Val.cells,Def.cells,k7]
    refine BrT.dec (fun k3=>?_) (fun k3=>?_)
    · simp[Val.cells,Def.cells,k7,k3]
      repeat refine⟨DrawT.mk (by kernel_rfl),?_⟩
      refine CallT.p0 (p_Contains d.words t hw) (by first | rfl | (simp;done)|(simp[Val.cells,Def.cells,k7,k3];done)) (by first | rfl | (simp;done)|(simp;rfl)|(simp[Val.cells,Def.cells,k7,k3];done)) ?_
      simp[Val.cells,Def.cells,k7,k3]
    · simp[Val.cells,Def.cells,k7,k3]
def pairB (flds:List Fld) (p:Typ→Val→Bool) (x:ByteArray×Val):Bool:=match fldAt flds x.1 with | some f=>p f.ty x.2 | none=>false
def isReq:Typ→Bool | .mk _ _ b=>b
def reqB (ns:List ByteArray) (f:Fld):Bool:=!(isReq f.ty && !memB f.name ns)
theorem idx_neg (x:ByteArray) (l:List ByteArray):decide (idxI x l<0) = !memB x l:=by
  rw[← idxI_mem]
  by_cases h:0≤idxI x l
  · rw[decide_eq_true h,decide_eq_false (by omega)];rfl
  · rw[decide_eq_false h,decide_eq_true (by omega)];rfl
theorem p_placeOf (l:List ByteArray) (x:ByteArray) (hl:l.length≤4611686018427387904):PCall Tryz.prog gl 231 [namesD l,dS x] (dI (idxI x l)):=by
  refine PCall.by_ (md:=[]) Tryz.func231 rfl (by kernel_rfl) (n:=8) Tryz.ntmps231 (by simp) (by decide) rfl ?_
  simp
  repeat refine⟨DrawT.mk (by kernel_rfl),?_⟩
  refine CallT.p0 (p_Index l x hl) (by first | rfl | (simp;done)|(simp;done)) (by first | rfl | (simp;done)|(simp;rfl)|(simp;done)) ?_
  simp
set_option maxHeartbeats 4000000 in
theorem p_tree1 (L:List Def) (k n:Int) (t:ByteArray) (l:List Val) (ns:List ByteArray) (d:Def) (p:Typ→Val→Bool) (hf:d.flds.length≤4611686018427387904) (hn:k=5→ns.length≤l.length) (hl:l.length≤4611686018427387904) (h:∀ f∈d.flds,PCall Tryz.prog gl 80 [schD L,f.ty.d] (takD L f.ty)∧∀ w∈l,PCall Tryz.prog gl 174 (w.d::[.pp f.ty.cells 0, .pp [tsomD L f.ty] 0]) (dB (p f.ty w))):PCall Tryz.prog gl 287 [(Val.mk k n t l ns).d, .pp d.cells 0, .pp [schD L] 0] (dB (decide (k=5)&&((ns.zip l).all (pairB d.flds p)&&d.flds.all (reqB ns)))):=by
  refine PCall.by_ (md:=[]) Tryz.func287 rfl (by kernel_rfl) (n:=64) Tryz.ntmps287 (by simp) (by decide) rfl ?_
  simp[Val.cells,Def.cells]
  refine BrT.dec (fun k5=>?_) (fun k5=>?_)
  case refine_2=>simp[Val.cells,Def.cells,k5]
  have hn:=hn k5
  have hnl:ns.length≤4611686018427387904:=by omega
  have hz:(ns.zip l).length=ns.length:=by simp;omega
  simp[Val.cells,Def.cells,k5]
  refine LoopT.round (fun E S=>∃ (i:Nat),(i≤ns.length)∧E 1=some (.d (.pp [dS d.name,dI d.kind,fldsD d.flds,namesD d.words] 0))∧E 2=some (.d (.pp [schD L] 0))∧E 3=some (.op 0 0)∧E 15=some (.d (namesD ns))∧E 16=some (.d (dI ns.length))∧E 17=some (.d (dI i))∧S.B 0=some ([.d (dI k), .d (dI n), .d (dS t), .d (valsD l), .d (namesD ns)])∧(allUp (pairB d.flds p) (ns.zip l) i)∧(1≤S.nx)) (upTo 17 ns.length) ⟨0,by simp[Val.cells,Def.cells,k5];exact allUp_zero _ _⟩ ?_
  rintro E S hk ⟨i,hi,h1,h2,h3,h15,h16,h17,hB0,hp,hx⟩
  have hn:S.n=64:=by first | (simpa using hk.n)|(have hh:=hk.n;simp[Val.cells,Def.cells,k5] at hh;exact hh)
  have hg:S.gl=gl:=by first | (simpa using hk.gl)|(have hh:=hk.gl;simp[Val.cells,Def.cells,k5] at hh;exact hh)
  have hmd:S.md=[]:=by first | (simpa using hk.md)|(have hh:=hk.md;simp[Val.cells,Def.cells,k5] at hh;exact hh)
  simp[Val.cells,Def.cells,k5,h1,h2,h3,h15,h16,h17,hB0,hn,hg,hmd]
  have w:=wrap64 (n:=(i:Int)+1) (by omega) (by omega)
  refine BrT.dec (fun c2=>?_) (fun c2=>?_)
  · have hi2:i<ns.length:=by omega
    have hi4:i<l.length:=by omega
    have hi3:i<(ns.zip l).length:=by omega
    have hlen:=valsCells_len l
    have hfit:i*5+5≤l.length*5:=by omega
    have bad:=all_bad (p:=pairB d.flds p) hi3
    have good:=all_take (p:=pairB d.flds p) hi3 hp
    have hzi:(ns.zip l)[i]=(ns[i],l[i]):=List.getElem_zip
    rw[hzi] at bad good
    have hat:=valsCells_at l hi4
    have hwm:=List.getElem_mem hi4
    generalize l[i]=x at bad good hat hwm
    have hF:=fun s=>p_fieldOf (gl:=gl) d.flds s hf
    obtain⟨s,hs⟩:∃ s,ns[i]=s:=⟨_,rfl⟩
    rw[hs] at bad good
    cases hfa:fldAt d.flds s with
    | none =>
      have hF:=hF s
      rw[hfa] at hF
      have hq:=bad (by simp[pairB,hfa])
      simp[Val.cells,Def.cells,k5,h1,h2,h3,h15,h16,h17,hB0,hn,hg,hmd,c2,hi2,w,hlen,hfit,hat,cells_len,hi4,hs,hq]
      repeat refine⟨DrawT.mk (by kernel_rfl),?_⟩
      refine CallT.p0 (hF) (by first | rfl | (simp;done)|(simp[Val.cells,Def.cells,k5,h1,h2,h3,h15,h16,h17,hB0,hn,hg,hmd,c2,hi2,w,hlen,hfit,hat,cells_len,hi4,hs,hq];done)) (by first | rfl | (simp;done)|(simp;rfl)|(simp[Val.cells,Def.cells,k5,h1,h2,h3,h15,h16,h17,hB0,hn,hg,hmd,c2,hi2,w,hlen,hfit,hat,cells_len,hi4,hs,hq];done)) ?_
      simp[Val.cells,Def.cells,k5,h1,h2,h3,h15,h16,h17,hB0,hn,hg,hmd,c2,hi2,w,hlen,hfit,hat,cells_len,hi4,hs,hq]
      exact⟨rfl,DrawT.mk (by kernel_rfl)⟩
    | some f =>
      have hF:=hF s
      rw[hfa] at hF
      have hfm:f∈d.flds:=List.mem_of_find?_eq_some hfa
      obtain⟨hT,hU⟩:=h f hfm
      have hU:=hU x hwm
      have hpr:pairB d.flds p (s,x)=p f.ty x:=by simp[pairB,hfa]
      rw[hpr] at bad good
      obtain⟨fn,fa,ft⟩:=f
      cases ft with
      | mk t2 l2 b2 =>
      simp only at hT hU bad good
      rw[takD_eq] at hT
      simp[Val.cells,Def.cells,k5,h1,h2,h3,h15,h16,h17,hB0,hn,hg,hmd,c2,hi2,w,hlen,hfit,hat,cells_len,hi4,hs,Fld.cells,Typ.cells]
      repeat refine⟨DrawT.mk (by kernel_rfl),?_⟩
      refine CallT.p0 (hF) (by first | rfl | (simp;done)|(simp[Val.cells,Def.cells,k5,h1,h2,h3,h15,h16,h17,hB0,hn,hg,hmd,c2,hi2,w,hlen,hfit,hat,cells_len,hi4,hs,Fld.cells,Typ.cells];done)) (by first | rfl | (simp;done)|(simp;rfl)|(simp[Val.cells,Def.cells,k5,h1,h2,h3,h15,h16,h17,hB0,hn,hg,hmd,c2,hi2,w,hlen,hfit,hat,cells_len,hi4,hs,Fld.cells,Typ.cells];done)) ?_
      simp[Val.cells,Def.cells,k5,h1,h2,h3,h15,h16,h17,hB0,hn,hg,hmd,c2,hi2,w,hlen,hfit,hat,cells_len,hi4,hs,Fld.cells,Typ.cells]
      refine⟨DrawT.mk (by kernel_rfl),?_⟩
      repeat refine⟨DrawT.mk (by kernel_rfl),?_⟩
      refine CallT.p0 (hT) (by first | rfl | (simp;done)|(simp[Val.cells,Def.cells,k5,h1,h2,h3,h15,h16,h17,hB0,hn,hg,hmd,c2,hi2,w,hlen,hfit,hat,cells_len,hi4,hs,Fld.cells,Typ.cells];done)) (by first | rfl | (simp;done)|(simp;rfl)|(simp[Val.cells,Def.cells,k5,h1,h2,h3,h15,h16,h17,hB0,hn,hg,hmd,c2,hi2,w,hlen,hfit,hat,cells_len,hi4,hs,Fld.cells,Typ.cells];done)) ?_
      simp[Val.cells,Def.cells,k5,h1,h2,h3,h15,h16,h17,hB0,hn,hg,hmd,c2,hi2,w,hlen,hfit,hat,cells_len,hi4,hs,Fld.cells,Typ.cells]
      repeat refine⟨DrawT.mk (by kernel_rfl),?_⟩
      refine CallT.p0 (hU) (by first | rfl | (simp;done)|(simp[Val.cells,Def.cells,k5,h1,h2,h3,h15,h16,h17,hB0,hn,hg,hmd,c2,hi2,w,hlen,hfit,hat,cells_len,hi4,hs,Fld.cells,Typ.cells];done)) (by first | rfl | (simp;done)|(simp;rfl)|(simp[Val.cells,Def.cells,k5,h1,h2,h3,h15,h16,h17,hB0,hn,hg,hmd,c2,hi2,w,hlen,hfit,hat,cells_len,hi4,hs,Fld.cells,Typ.cells];done)) ?_
      simp[Val.cells,Def.cells,k5,h1,h2,h3,h15,h16,h17,hB0,hn,hg,hmd,c2,hi2,w,hlen,hfit,hat,cells_len,hi4,hs,Fld.cells,Typ.cells]
      refine BrT.mk (fun c3=>?_) (fun c3=>?_)
      case refine_2=>(have hq:=bad c3;simp[Val.cells,Def.cells,k5,h1,h2,h3,h15,h16,h17,hB0,hn,hg,hmd,c2,hi2,w,hlen,hfit,hat,cells_len,hi4,hs,Fld.cells,Typ.cells,c3,hq])
      simp[Val.cells,Def.cells,k5,h1,h2,h3,h15,h16,h17,hB0,hn,hg,hmd,c2,hi2,w,hlen,hfit,hat,cells_len,hi4,hs,Fld.cells,Typ.cells,c3]
      exact⟨⟨i+1,hi2,by omega,good c3⟩,upTo_lt h17 (by simp) hi2⟩
  · have hi3:i=ns.length:=by omega
    subst hi3
    have hzz:=allUp_all (l:=ns.zip l) (p:=pairB d.flds p) (by rw[hz];exact hp)
    simp[Val.cells,Def.cells,k5,h1,h2,h3,h15,h16,h17,hB0,hn,hg,hmd,c2]
    refine LoopT.round (fun E S=>∃ (j:Nat),(j≤d.flds.length)∧E 1=some (.d (.pp [dS d.name,dI d.kind,fldsD d.flds,namesD d.words] 0))∧E 3=some (.op 0 0)∧E 46=some (.d (fldsD d.flds))∧E 47=some (.d (dI d.flds.length))∧E 48=some (.d (dI j))∧S.B 0=some ([.d (dI k), .d (dI n), .d (dS t), .d (valsD l), .d (namesD ns)])∧(allUp (reqB ns) d.flds j)∧(1≤S.nx)) (upTo 48 d.flds.length) ⟨0,by simp[Val.cells,Def.cells,k5,h1,h2,h3,h15,h16,h17,hB0,hn,hg,hmd,c2];exact allUp_zero _ _⟩ ?_
    rintro E S hk ⟨j,hj,h1,h3,h46,h47,h48,hB0,hp2,hx⟩
    have hn:S.n=64:=by first | (simpa using hk.n)|(have hh:=hk.n;simp[Val.cells,Def.cells,k5,h1,h2,h3,h15,h16,h17,hB0,hn,hg,hmd,c2] at hh;exact hh)
    have hg:S.gl=gl:=by first | (simpa using hk.gl)|(have hh:=hk.gl;simp[Val.cells,Def.cells,k5,h1,h2,h3,h15,h16,h17,hB0,hn,hg,hmd,c2] at hh;exact hh)
    have hmd:S.md=[]:=by first | (simpa using hk.md)|(have hh:=hk.md;simp[Val.cells,Def.cells,k5,h1,h2,h3,h15,h16,h17,hB0,hn,hg,hmd,c2] at hh;exact hh)
    simp[Val.cells,Def.cells,k5,h1,h2,h3,h15,h16,h17,hB0,hn,hg,hmd,c2,h1,h3,h46,h47,h48,hB0,hn,hg,hmd]
    have w2:=wrap64 (n:=(j:Int)+1) (by omega) (by omega)
    refine BrT.dec (fun c4=>?_) (fun c4=>?_)
    · have hj2:j<d.flds.length:=by omega
      have flen:=flds_len d.flds
      have ffit:j*5+5≤d.flds.length*5:=by omega
      have bad2:=all_bad (p:=reqB ns) hj2
      have good2:=all_take (p:=reqB ns) hj2 hp2
      have fat:=flds_at d.flds hj2
      generalize d.flds[j]=f at bad2 good2 fat
      obtain⟨nm,fa,ft⟩:=f
      cases ft with
      | mk t2 l2 b2 =>
      simp only[Fld.cells,Typ.cells] at fat
      simp[Val.cells,Def.cells,k5,h1,h2,h3,h15,h16,h17,hB0,hn,hg,hmd,c2,h1,h3,h46,h47,h48,hB0,hn,hg,hmd,c4,hj2,w2,flen,ffit,fat]
      refine BrT.mk (fun c5=>?_) (fun c5=>?_)
      · simp[Val.cells,Def.cells,k5,h1,h2,h3,h15,h16,h17,hB0,hn,hg,hmd,c2,h1,h3,h46,h47,h48,hB0,hn,hg,hmd,c4,hj2,w2,flen,ffit,fat,c5]
        repeat refine⟨DrawT.mk (by kernel_rfl),?_⟩
        refine CallT.p0 (p_placeOf ns nm hnl) (by first | rfl | (simp;done)|(simp[Val.cells,Def.cells,k5,h1,h2,h3,h15,h16,h17,hB0,hn,hg,hmd,c2,h1,h3,h46,h47,h48,hB0,hn,hg,hmd,c4,hj2,w2,flen,ffit,fat,c5];done)) (by first | rfl | (simp;done)|(simp;rfl)|(simp[Val.cells,Def.cells,k5,h1,h2,h3,h15,h16,h17,hB0,hn,hg,hmd,c2,h1,h3,h46,h47,h48,hB0,hn,hg,hmd,c4,hj2,w2,flen,ffit,fat,c5];done)) ?_
        simp[Val.cells,Def.cells,k5,h1,h2,h3,h15,h16,h17,hB0,hn,hg,hmd,c2,h1,h3,h46,h47,h48,hB0,hn,hg,hmd,c4,hj2,w2,flen,ffit,fat,c5]
        have hneg:=idx_neg nm ns
        refine BrT.dec (fun c6=>?_) (fun c6=>?_)
        · rw[decide_eq_true c6] at hneg
          have hq:=bad2 (by simp only[reqB,isReq,c5];revert hneg;cases memB nm ns<;>simp)
          simp[Val.cells,Def.cells,k5,h1,h2,h3,h15,h16,h17,hB0,hn,hg,hmd,c2,h1,h3,h46,h47,h48,hB0,hn,hg,hmd,c4,hj2,w2,flen,ffit,fat,c5,c6,hzz,hq]
        · rw[decide_eq_false c6] at hneg
          have hq:=good2 (by simp only[reqB,isReq,c5];revert hneg;cases memB nm ns<;>simp)
          simp[Val.cells,Def.cells,k5,h1,h2,h3,h15,h16,h17,hB0,hn,hg,hmd,c2,h1,h3,h46,h47,h48,hB0,hn,hg,hmd,c4,hj2,w2,flen,ffit,fat,c5,c6]
          exact⟨⟨j+1,hj2,by omega,hq⟩,upTo_lt h48 (by simp) hj2⟩
      · have hq:=good2 (by simp only[reqB,isReq,c5];rfl)
        simp[Val.cells,Def.cells,k5,h1,h2,h3,h15,h16,h17,hB0,hn,hg,hmd,c2,h1,h3,h46,h47,h48,hB0,hn,hg,hmd,c4,hj2,w2,flen,ffit,fat,c5]
        exact⟨⟨j+1,hj2,by omega,hq⟩,upTo_lt h48 (by simp) hj2⟩
    · have hj3:j=d.flds.length:=by omega
      subst hj3
      simp[Val.cells,Def.cells,k5,h1,h2,h3,h15,h16,h17,hB0,hn,hg,hmd,c2,h1,h3,h46,h47,h48,hB0,hn,hg,hmd,c4,hzz,allUp_all hp2]
set_option maxHeartbeats 2000000 in
theorem p_takes1 (k n:Int) (x:ByteArray) (vs:List Val) (ns:List ByteArray) (t:Typ) (f:FuncId) (caps:List D) (r:Bool) (h:PCall Tryz.prog gl f ((Val.mk k n x vs ns).d::caps) (dB r)):PCall Tryz.prog gl 174 [(Val.mk k n x vs ns).d, .pp t.cells 0, .pp [fnD f caps] 0] (dB (if k=0 then !isReq t else r)):=by
  cases t with
  | mk t lt b =>
  refine PCall.by_ (md:=[]) Tryz.func174 rfl (by kernel_rfl) (n:=14) Tryz.ntmps174 (by simp) (by decide) rfl ?_
  simp[Val.cells,Typ.cells]
  refine BrT.dec (fun k0=>?_) (fun k0=>?_)
  · simp[Val.cells,Typ.cells,k0]
    rfl
  · simp[Val.cells,Typ.cells,k0]
    repeat refine⟨DrawT.mk (by kernel_rfl),?_⟩
    refine CallT.p0 (h) (by first | rfl | (simp;done)|(simp[Val.cells,Typ.cells,k0];done)) (by first | rfl | (simp;done)|(simp;rfl)|(simp[Val.cells,Typ.cells,k0];done)) ?_
    simp[Val.cells,Typ.cells,k0]
inductive TW:Val→Prop
  | mk {k n:Int} {t:ByteArray} {l:List Val} {ns:List ByteArray} (hn:k=5→ns.length≤l.length) (h:∀ v∈l,TW v):TW (.mk k n t l ns)
def fitsB (l:List Def):Typ→Val→Bool
  | .mk t lt b, .mk k n x vs ns =>
    if k=0 then !b
    else if t=noS then (match lt with
      | y::_=>if k=4 then vs.attach.all (fun v=>fitsB l y v.1) else fitsB l y (.mk k n x vs ns)
      | []=>false)
    else if t=intS then decide (k=2) else if t=strS then decide (k=3) else if t=boolS then decide (k=1) else if t=idS then decide (k=3) || decide (k=2)
    else if kindL l t=2 then (decide (k=7) || decide (k=3))&&memB x (defL l t).words
    else if kindL l t=3 then decide (k=5)&&((ns.zip vs).attach.all (fun q=>match fldAt (defL l t).flds q.1.1 with | some f=>fitsB l f.ty q.1.2 | none=>false)&&(defL l t).flds.all (reqB ns))
    else false
termination_by t v=>(SizeOf.sizeOf v,SizeOf.sizeOf t)
decreasing_by
  · have:=List.sizeOf_lt_of_mem v.2
    apply Prod.Lex.left
    simp;omega
  · apply Prod.Lex.right
    simp;omega
  · obtain⟨⟨s,w⟩,hq⟩:=q
    have:=List.sizeOf_lt_of_mem (List.of_mem_zip hq).2
    apply Prod.Lex.left
    simp;omega
theorem attach_all {α:Type} (l:List α) (p:α→Bool):(l.attach.all fun v=>p v.1)=l.all p:=by
  rw[Bool.eq_iff_iff,List.all_eq_true,List.all_eq_true]
  exact⟨fun h v hv=>h ⟨v,hv⟩ (List.mem_attach _ _),fun h v _=>h v.1 v.2⟩
def fitsS (l:List Def) (t:ByteArray) (lt:List Typ) (k n:Int) (x:ByteArray) (vs:List Val) (ns:List ByteArray):Bool :=
  if t=noS then (match lt with
      | y::_=>if k=4 then vs.all (fitsB l y) else fitsB l y (.mk k n x vs ns)
      | []=>false)
    else if t=intS then decide (k=2) else if t=strS then decide (k=3) else if t=boolS then decide (k=1) else if t=idS then decide (k=3) || decide (k=2)
    else if kindL l t=2 then (decide (k=7) || decide (k=3))&&memB x (defL l t).words
    else if kindL l t=3 then decide (k=5)&&((ns.zip vs).all (pairB (defL l t).flds (fitsB l))&&(defL l t).flds.all (reqB ns))
    else false
theorem fitsB_eq (l:List Def) (t:ByteArray) (lt:List Typ) (b:Bool) (k n:Int) (x:ByteArray) (vs:List Val) (ns:List ByteArray):fitsB l (.mk t lt b) (.mk k n x vs ns)=if k=0 then !b else fitsS l t lt k n x vs ns:=by
  unfold fitsB fitsS
  simp only[attach_all vs]
  rw[show ((ns.zip vs).attach.all fun q=>match fldAt (defL l t).flds q.1.1 with | some f=>fitsB l f.ty q.1.2 | none=>false)=(ns.zip vs).all (pairB (defL l t).flds (fitsB l)) from attach_all (ns.zip vs) (pairB (defL l t).flds (fitsB l))]
theorem defL_mem {l:List Def}{t:ByteArray} (h:kindL l t≠0):defL l t∈l:=by
  cases ha:atD l t with
  | none=>exact absurd (by rw[kindL,defL_none ha];rfl) h
  | some j=>rw[defL_some ha];exact List.getElem_mem _
def Tk (gl:Nat→Option D) (D0:D) (v:Val) (r:Bool):Prop:=∃ f caps,D0=fnD f caps∧PCall Tryz.prog gl f (v.d::caps) (dB r)
set_option maxHeartbeats 1000000 in
theorem p_fits (l:List Def) (hd:∀ d∈l,defB d=true∧DefOk d) (v:Val) (t:Typ) (e:Nat) (ht:typB t e=true) (hv:WF v) (hw:TW v):PCall Tryz.prog gl 174 [v.d, .pp t.cells 0, .pp [tsomD l t] 0] (dB (fitsB l t v)):=by
  match t,v,e,ht,hv,hw with
  | t,v,0,ht,_,_=>simp[typB] at ht
  | .mk t lt b, .mk k n x vs ns,e+1,ht, .mk hx hn hl hwf, .mk hz htw =>
  rw[fitsB_eq]
  have h1:Tk gl (tsomD l (.mk t lt b)) (.mk k n x vs ns) (fitsS l t lt k n x vs ns):=by
    unfold typB at ht
    by_cases h0:t=noS
    · rw[if_pos h0] at ht
      match hlt:lt,ht with
      | [],ht=>simp at ht
      | _::_::_,ht=>simp at ht
      | [y],ht =>
        simp only at ht
        have hr:tsomD l (.mk t [y] b)=fnD 286 [.pp [takD l y] 0]:=if_pos h0
        have hs:fitsS l t [y] k n x vs ns=if k=4 then vs.all (fitsB l y) else fitsB l y (.mk k n x vs ns):=if_pos h0
        rw[hr,hs,takD_eq]
        exact⟨_,_,rfl,p_list1 k n x vs ns _ (fitsB l y) hl (p_fits l hd (.mk k n x vs ns) y e ht (.mk hx hn hl hwf) (.mk hz htw)) fun w hm=>p_fits l hd w y e ht (hwf w hm) (htw w hm)⟩
    · have hr:tsomD l (.mk t lt b)=somD l t:=if_neg h0
      rw[hr]
      unfold fitsS somD
      rw[if_neg h0]
      by_cases h1:t=intS
      · rw[if_pos h1,if_pos h1];exact⟨_,_,rfl,p_some1 k n x vs ns⟩
      rw[if_neg h1,if_neg h1]
      by_cases h2:t=strS
      · rw[if_pos h2,if_pos h2];exact⟨_,_,rfl,p_some2 k n x vs ns⟩
      rw[if_neg h2,if_neg h2]
      by_cases h3:t=boolS
      · rw[if_pos h3,if_pos h3];exact⟨_,_,rfl,p_some3 k n x vs ns⟩
      rw[if_neg h3,if_neg h3]
      by_cases h4:t=idS
      · rw[if_pos h4,if_pos h4];exact⟨_,_,rfl,p_some4 k n x vs ns⟩
      rw[if_neg h4,if_neg h4]
      by_cases h5:kindL l t=2
      · rw[if_pos h5,if_pos h5]
        have hm:=defL_mem (l:=l) (t:=t) (by omega)
        exact⟨_,_,rfl,p_some5 k n x vs ns _ (by have:=(hd _ hm).2.2.2.1;omega)⟩
      rw[if_neg h5,if_neg h5]
      by_cases h6:kindL l t=3
      · rw[if_pos h6,if_pos h6]
        have hm:=defL_mem (l:=l) (t:=t) (by omega)
        obtain⟨hb,hok⟩:=hd _ hm
        refine⟨_,_,rfl,p_tree1 l k n x vs ns (defL l t) (fitsB l) hok.2.1.1 hz hl fun f hf=>?_⟩
        have hty:=(fld_of hb f hf).1
        exact⟨p_takes_of l f.ty (p_takesSome l f.ty 3 hty),fun w hm=>p_fits l hd w f.ty 3 hty (hwf w hm) (htw w hm)⟩
      · rw[if_neg h6,if_neg h6]
        exact⟨_,_,rfl,p_never k n x vs ns⟩
  obtain⟨f,caps,hf,hp⟩:=h1
  rw[hf]
  exact p_takes1 k n x vs ns (.mk t lt b) f caps _ hp
  termination_by (SizeOf.sizeOf v,SizeOf.sizeOf t)
  decreasing_by
    · apply Prod.Lex.right
      subst hlt
      simp;omega
    · have:=List.sizeOf_lt_of_mem hm
      apply Prod.Lex.left
      simp;omega
    · have:=List.sizeOf_lt_of_mem hm
      apply Prod.Lex.left
      simp;omega
def argFits (l:List Def) (a:Arg):Bool:=!(a.has && !fitsB l a.ty a.els)
def fldFits (l:List Def) (f:Fld):Bool:=f.args.all (argFits l)
def defFits (l:List Def) (d:Def):Bool:=d.flds.all (fldFits l)
set_option maxHeartbeats 4000000 in
theorem p_elses1 (l:List Def) (d:Def) (hok:DefOk d) (hd:∀ d∈l,defB d=true∧DefOk d) (hb:defB d=true) (htw:∀ a:Arg,argB a=true→a.has=true→TW a.els):PCall Tryz.prog gl 163 [d.d, .pp [schD l] 0] (dB (defFits l d)):=by
  refine PCall.by_ (md:=[]) Tryz.func163 rfl (by kernel_rfl) (n:=36) Tryz.ntmps163 (by simp) (by decide) rfl ?_
  simp[Def.cells]
  have hfl:=hok.2.1.1
  refine LoopT.round (fun E S=>∃ (i:Nat),(i≤d.flds.length)∧E 1=some (.d (.pp [schD l] 0))∧E 9=some (.d (fldsD d.flds))∧E 10=some (.d (dI d.flds.length))∧E 11=some (.d (dI i))∧(allUp (fldFits l) d.flds i)∧(1≤S.nx)) (upTo 11 d.flds.length) ⟨0,by simp[Def.cells];exact allUp_zero _ _⟩ ?_
  rintro E S hk ⟨i,hi,h1,h9,h10,h11,hp,hx⟩
  have hn:S.n=36:=by first | (simpa using hk.n)|(have hh:=hk.n;simp[Def.cells] at hh;exact hh)
  have hg:S.gl=gl:=by first | (simpa using hk.gl)|(have hh:=hk.gl;simp[Def.cells] at hh;exact hh)
  have hmd:S.md=[]:=by first | (simpa using hk.md)|(have hh:=hk.md;simp[Def.cells] at hh;exact hh)
  simp[Def.cells,h1,h9,h10,h11,hn,hg,hmd]
  have w:=wrap64 (n:=(i:Int)+1) (by omega) (by omega)
  refine BrT.dec (fun c=>?_) (fun c=>?_)
  · have hi2:i<d.flds.length:=by omega
    have hlen:=flds_len d.flds
    have hfit:i*5+5≤d.flds.length*5:=by omega
    have hN:=fld_of hb _ (List.getElem_mem hi2)
    have hO:=hok.2.1.2 _ (List.getElem_mem hi2)
    have bad:fldFits l d.flds[i]=false→defFits l d=false:=fun h=>all_bad hi2 h
    have good:=all_take (p:=fldFits l) hi2 hp
    have hat:=flds_at d.flds hi2
    generalize hav:d.flds[i]=a at hN hO bad good hat
    have hab:fldFits l a=a.args.all (argFits l):=rfl
    obtain⟨nm,args,ty⟩:=a
    obtain⟨hN1,hN2⟩:=hN
    obtain⟨hal,hao⟩:=hO.2.1
    simp only at hN1 hN2 hal hao hab
    cases ty with
    | mk t lt b =>
    simp only[Fld.cells,Typ.cells] at hat
    simp[Def.cells,h1,h9,h10,h11,hn,hg,hmd,c,hi2,w,hlen,hfit,hat]
    have o11:=h11
    refine LoopT.round (fun E S=>∃ (k:Nat),(k≤args.length)∧E 1=some (.d (.pp [schD l] 0))∧E 9=some (.d (fldsD d.flds))∧E 10=some (.d (dI d.flds.length))∧E 11=some (.d (dI i))∧E 16=some (.d (argsD args))∧E 17=some (.d (dI args.length))∧E 18=some (.d (dI k))∧(allUp (argFits l) args k)∧(1≤S.nx)) (upTo 18 args.length) ⟨0,by simp[Def.cells,h1,h9,h10,h11,hn,hg,hmd,c,hi2,w,hlen,hfit,hat];exact allUp_zero _ _⟩ ?_
    rintro E S hk ⟨k,hkl,h1,h9,h10,h11,h16,h17,h18,hp2,hx⟩
    have hn:S.n=36:=by first | (simpa using hk.n)|(have hh:=hk.n;simp[Def.cells,h1,h9,h10,h11,hn,hg,hmd,c,hi2,w,hlen,hfit,hat] at hh;exact hh)
    have hg:S.gl=gl:=by first | (simpa using hk.gl)|(have hh:=hk.gl;simp[Def.cells,h1,h9,h10,h11,hn,hg,hmd,c,hi2,w,hlen,hfit,hat] at hh;exact hh)
    have hmd:S.md=[]:=by first | (simpa using hk.md)|(have hh:=hk.md;simp[Def.cells,h1,h9,h10,h11,hn,hg,hmd,c,hi2,w,hlen,hfit,hat] at hh;exact hh)
    simp[Def.cells,h1,h9,h10,h11,hn,hg,hmd,c,hi2,w,hlen,hfit,hat,h1,h9,h10,h11,h16,h17,h18,hn,hg,hmd]
    have w2:=wrap64 (n:=(k:Int)+1) (by omega) (by omega)
    refine BrT.dec (fun c2=>?_) (fun c2=>?_)
    · have hk2:k<args.length:=by omega
      have alen:=args_len args
      have afit:k*10+10≤args.length*10:=by omega
      have bad2:=all_bad (p:=argFits l) hk2
      have good2:=all_take (p:=argFits l) hk2 hp2
      have aat:=args_at args hk2
      have hA:=hN2 _ (List.getElem_mem hk2)
      have hAO:=hao _ (List.getElem_mem hk2)
      generalize args[k]=x at bad2 good2 aat hA hAO
      have hty:=typ_of hA
      have htx:=htw x hA
      have hT:=p_takes_of (gl:=gl) l x.ty (p_takesSome l x.ty 3 hty)
      rw[takD_eq] at hT
      have hF:=fun h=>p_fits (gl:=gl) l hd x.els x.ty 3 hty hAO.2.2 (htx h)
      have hax:argFits l x = !(x.has && !fitsB l x.ty x.els):=rfl
      obtain⟨xn,xt,xh,xe⟩:=x
      simp only at bad2 good2 hT hF hax
      cases xt with
      | mk t2 l2 b2 =>
      cases xe with
      | mk ek en et el ens =>
      simp only[Arg.cells,Typ.cells,Val.cells] at aat
      simp[Def.cells,h1,h9,h10,h11,hn,hg,hmd,c,hi2,w,hlen,hfit,hat,h1,h9,h10,h11,h16,h17,h18,hn,hg,hmd,c2,hk2,w2,alen,afit,aat,Typ.cells,Val.cells]
      refine⟨DrawT.mk (by kernel_rfl),?_⟩
      refine BrT.mk (fun c3=>?_) (fun c3=>?_)
      · have hF:=hF c3
        simp[Def.cells,h1,h9,h10,h11,hn,hg,hmd,c,hi2,w,hlen,hfit,hat,h1,h9,h10,h11,h16,h17,h18,hn,hg,hmd,c2,hk2,w2,alen,afit,aat,Typ.cells,Val.cells,c3]
        repeat refine⟨DrawT.mk (by kernel_rfl),?_⟩
        refine CallT.p0 (hT) (by first | rfl | (simp;done)|(simp[Def.cells,h1,h9,h10,h11,hn,hg,hmd,c,hi2,w,hlen,hfit,hat,h1,h9,h10,h11,h16,h17,h18,hn,hg,hmd,c2,hk2,w2,alen,afit,aat,Typ.cells,Val.cells,c3];done)) (by first | rfl | (simp;done)|(simp;rfl)|(simp[Def.cells,h1,h9,h10,h11,hn,hg,hmd,c,hi2,w,hlen,hfit,hat,h1,h9,h10,h11,h16,h17,h18,hn,hg,hmd,c2,hk2,w2,alen,afit,aat,Typ.cells,Val.cells,c3];done)) ?_
        simp[Def.cells,h1,h9,h10,h11,hn,hg,hmd,c,hi2,w,hlen,hfit,hat,h1,h9,h10,h11,h16,h17,h18,hn,hg,hmd,c2,hk2,w2,alen,afit,aat,Typ.cells,Val.cells,c3]
        repeat refine⟨DrawT.mk (by kernel_rfl),?_⟩
        refine CallT.p0 (hF) (by first | rfl | (simp;done)|(simp[Def.cells,h1,h9,h10,h11,hn,hg,hmd,c,hi2,w,hlen,hfit,hat,h1,h9,h10,h11,h16,h17,h18,hn,hg,hmd,c2,hk2,w2,alen,afit,aat,Typ.cells,Val.cells,c3];done)) (by first | rfl | (simp;done)|(simp;rfl)|(simp[Def.cells,h1,h9,h10,h11,hn,hg,hmd,c,hi2,w,hlen,hfit,hat,h1,h9,h10,h11,h16,h17,h18,hn,hg,hmd,c2,hk2,w2,alen,afit,aat,Typ.cells,Val.cells,c3];done)) ?_
        simp[Def.cells,h1,h9,h10,h11,hn,hg,hmd,c,hi2,w,hlen,hfit,hat,h1,h9,h10,h11,h16,h17,h18,hn,hg,hmd,c2,hk2,w2,alen,afit,aat,Typ.cells,Val.cells,c3]
        refine BrT.mk (fun c4=>?_) (fun c4=>?_)
        case refine_2=>(have hq:=bad (by rw[hab];exact bad2 (by rw[hax,c3,c4];rfl));simp[Def.cells,h1,h9,h10,h11,hn,hg,hmd,c,hi2,w,hlen,hfit,hat,h1,h9,h10,h11,h16,h17,h18,hn,hg,hmd,c2,hk2,w2,alen,afit,aat,Typ.cells,Val.cells,c3,c4,hq])
        simp[Def.cells,h1,h9,h10,h11,hn,hg,hmd,c,hi2,w,hlen,hfit,hat,h1,h9,h10,h11,h16,h17,h18,hn,hg,hmd,c2,hk2,w2,alen,afit,aat,Typ.cells,Val.cells,c3,c4]
        exact⟨⟨k+1,hk2,by omega,good2 (by rw[hax,c3,c4];rfl)⟩,upTo_lt h18 (by simp) hk2⟩
      · simp[Def.cells,h1,h9,h10,h11,hn,hg,hmd,c,hi2,w,hlen,hfit,hat,h1,h9,h10,h11,h16,h17,h18,hn,hg,hmd,c2,hk2,w2,alen,afit,aat,Typ.cells,Val.cells,c3]
        exact⟨⟨k+1,hk2,by omega,good2 (by rw[hax,c3];rfl)⟩,upTo_lt h18 (by simp) hk2⟩
    · have hk3:k=args.length:=by omega
      subst hk3
      have hq:=good (by rw[hab];exact allUp_all hp2)
      simp[Def.cells,h1,h9,h10,h11,hn,hg,hmd,c,hi2,w,hlen,hfit,hat,h1,h9,h10,h11,h16,h17,h18,hn,hg,hmd,c2]
      exact⟨⟨i+1,hi2,by omega,hq⟩,upTo_lt o11 (by simp) hi2⟩
  · have hi3:i=d.flds.length:=by omega
    subst hi3
    have hq:defFits l d=true:=allUp_all hp
    simp[Def.cells,h1,h9,h10,h11,hn,hg,hmd,c,hq]
theorem oksB_mem {d:Int}{w:Bool}{v:Val}:∀ {l:List Val},oksB l d w=true→v∈l→okB v d w=true
  | [],_,hm=>by cases hm
  | x::r,h,hm=>by
    rw[oksB,Bool.and_eq_true] at h
    rcases List.mem_cons.1 hm with rfl | hm
    · exact h.1
    · exact oksB_mem h.2 hm
theorem tw_of (v:Val) (d:Int) (w:Bool) (h:okB v d w=true):TW v:=by
  match v,h with
  | .mk k n t l ns,h =>
    rw[okB] at h
    simp only[Bool.and_eq_true] at h
    refine .mk (fun k5=>?_) fun x hx=>tw_of x (d - 1) w (oksB_mem h.2 hx)
    have hp:=h.1.1.1.2
    subst k5
    simp[plainB] at hp
    omega
  termination_by SizeOf.sizeOf v
  decreasing_by
    have:=List.sizeOf_lt_of_mem hx
    simp;omega
set_option maxHeartbeats 2000000 in
theorem p_elsesFit (l:List Def) (hd:∀ d∈l,defB d=true∧DefOk d):PCall Tryz.prog gl 67 [schD l] (dB (l.all (defFits l))):=by
  have htw:∀ a:Arg,argB a=true→a.has=true→TW a.els:=fun a h hh=>by
    unfold argB elseB at h
    rw[hh,if_pos rfl,Bool.and_eq_true] at h
    exact tw_of _ _ _ h.2
  have h:=p_eachDef (gl:=gl) l 163 [.pp [schD l] 0] (defFits l) fun d hm=>p_elses1 l d (hd d hm).2 hd (hd d hm).1 htw
  refine PCall.by_ (md:=[]) Tryz.func67 rfl (by kernel_rfl) (n:=6) Tryz.ntmps67 (by simp) (by decide) rfl ?_
  simp
  refine CallT.l (LCall.ofP (k:=9) h (by simp)) rfl ?_
  simp
end Go.Proofs.YtbmoiajdknejnaaGreat
