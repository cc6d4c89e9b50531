/- Vs and what follows it, one behind another. -/
import Derived.Test.YtlmpjblmmpddeaaGreatMg7
import Derived.Test.YtlmpjblmmpddeaaGreatMg6
import Derived.Test.YtlmpjblmmpddeaaGreatMg5
set_option linter.unusedVariables false
set_option linter.unusedSimpArgs false
set_option maxRecDepth 100000
namespace Go.Proofs.YtlmpjblmmpddeaaGreat
open Go.Sh
variable {gl:Nat→Option D}
set_option maxHeartbeats 8000000 in
theorem l_text13 (S0:St) (R:Nat) (c:List UInt8) (p:Nat) (hR:R<S0.nx) (h:S0.B R=some (rdP c p)) (hc:c.length≤2000) (hp:p≤900000) :
    ∃ r S',LCall Tryz.prog 153 [.op R 0] S0 r S'∧∃ s:ByteArray,r=.d (dS s)∧s.size≤40∧Got S0 S' R (rdP c (p+1)) []:=by
  have hm:=p_many (gl:=S0.gl) ⟨#[120]⟩ 40 (by decide) (by decide) (by decide)
  have hms:(manyS ⟨#[120]⟩ 40).size=40:=by rw[manyS_size];rfl
  generalize manyS ⟨#[120]⟩ 40=m at hm hms
  refine LCall.ex_ (md:=[]) Tryz.func153 rfl (by kernel_rfl) (by kernel_rfl) (n:=7) Tryz.ntmps153 (by simp) (by decide) rfl ?_
  simp[h]
  repeat refine⟨DrawT.mk (by kernel_rfl),?_⟩
  refine CallT.p0 (hm) (by first | rfl | (simp;done)|(simp[h];done)) (by first | rfl | (simp;done)|(simp;rfl)|(simp[h];done)) ?_
  simp[h]
  refine CallT.x (x_of _ R c p _ [⟨#[]⟩,⟨#[97]⟩,⟨#[104,101,108,108,111]⟩,⟨#[34,113,34]⟩,⟨#[108,105,110,101,10]⟩,⟨#[0,255]⟩,⟨#[92]⟩,m,⟨#[67,65,84]⟩] (.inl rfl) (by simp) (by simp) (by first | omega | (simp;omega)) (by simp[h]) hc (by omega)) rfl (fun r1 S1 h1=>?_)
  obtain⟨q1,hG1⟩:=h1
  subst q1
  have S1_n:=hG1.n
  try simp[h] at S1_n
  have S1_gl:=hG1.gl
  try simp[h,S1_n] at S1_gl
  have S1_md:=hG1.md
  try simp[h,S1_n,S1_gl] at S1_md
  have S1_nx:=hG1.nx
  try simp[h,S1_n,S1_gl,S1_md] at S1_nx
  have S1_rd:=hG1.rd
  have ho:=ofK_mem c p (l:=[⟨#[]⟩,⟨#[97]⟩,⟨#[104,101,108,108,111]⟩,⟨#[34,113,34]⟩,⟨#[108,105,110,101,10]⟩,⟨#[0,255]⟩,⟨#[92]⟩,m,⟨#[67,65,84]⟩]) (by simp)
  generalize ofK c p _=s at ho
  have hs:s.size≤40:=by
    simp only[List.mem_cons,List.not_mem_nil,or_false] at ho
    rcases ho with rfl | rfl | rfl | rfl | rfl | rfl | rfl | rfl | rfl<;>first | decide | omega
  simp[h,S1_n,S1_gl,S1_md,S1_rd]
  refine⟨hs,rfl,rfl,rfl,by simp;omega,by simp[h,S1_n,S1_gl,S1_md,S1_rd],?_,?_, .nil⟩
  · intro y k1 k2
    have a1:=hG1.old y (by simp;omega) k2
    simpa using a1
  · intro y k1
    have a1:=hG1.T y (by simp;omega)
    simpa using a1
def pB:Nat→Nat
  | 0=>4
  | d+1=>8+3*(1+pB d)
theorem AccD.toD {sz:Nat}{S:St}{X:SV}{cs:List D}{n:Nat} (h:AccD sz S X cs n):X.toD=some (.ps cs n):=by
  rcases h with ⟨rfl,rfl,rfl⟩ | ⟨_,i,_,rfl,_⟩<;>rfl
theorem AccD.move {sz sz':Nat}{S S':St}{X Y:SV}{cs cs':List D}{n n':Nat} (h:AccD sz S X cs n) (h':AccD sz' S Y cs' n') (hne:sz≠sz') (hnx:S.nx≤S'.nx) (hT:∀ y,y<S.nx→(∀ o c m,Y≠.tp y o c m)→S'.T y=S.T y):AccD sz S' X cs n:=by
  rcases h with ⟨rfl,rfl,rfl⟩ | ⟨h0,i,hi,rfl,hTi⟩
  · exact AccD.nil
  · refine .inr ⟨h0,i,by omega,rfl,(hT i hi (fun o c m e=>?_)).trans hTi⟩
    subst e
    rcases h' with ⟨_,_,h2⟩ | ⟨_,j,_,h2,h3⟩
    · cases h2
    · cases h2
      rw[hTi] at h3
      simp at h3
      exact hne h3.2
theorem OpT_addD {P:Program}{S1 S:St}{sz n id:Nat}{X:SV}{cs ds:List D}{dst:Option Nat}{T e by_:Nat}{K:Bool→SV→Eff→Prop} (hT:appOf P T=some (e,sz,by_)) (h:AccD sz S1 X cs n) (hl:cs.length=n*sz) (hds:ds.length=sz) (hb:appBound n 1 by_)
    (hS:∀ i,i<S1.nx→S.T i=S1.T i) (hnx:S1.nx≤S.nx) (hid:id<S.nx) (hmd:S.md=[])
    (hK:∀ X' S' E',S.app id E'=S'→AccD sz S' X' (cs++ds) (n+1)→S'.B=S.B→(∀ y,y≠id→(∀ o cs m,X≠.tp y o cs m)→S'.T y=S.T y)→(∀ i o cs m,X'=.tp i o cs m→i=id∨∃ o cs m,X=.tp i o cs m)→S'.nx=S.nx→S'.n=S.n→S'.gl=S.gl→S'.md=S.md→K true X' E'):OpT (evalAppend P S id dst T X (.fl ds 1)) K:=by
  rcases h with ⟨rfl,rfl,rfl⟩ | ⟨h0,i,hi,rfl,hTi⟩
  · have he:evalAppend P S id dst T (.fl [] 0) (.fl ds 1)=some (.tp id 0 ([]++ds) (0+1), .tip id (0+1) sz):=by
      rw[evalAppend_fl]
      simp[rowS,hT,hmd,hds,onlyIf,hb]
    rw[he]
    refine hK _ _ _ rfl (.inr ⟨by omega,id,hid,rfl,upd_same _ _ _⟩) rfl (fun y hy _=>upd_ne _ _ hy) (fun i o cs m e=>?_) rfl rfl rfl rfl
    cases e;exact .inl rfl
  · have hTS:S.T i=some (n,sz):=(hS i hi).trans hTi
    have he:evalAppend P S id dst T (.tp i 0 cs n) (.fl ds 1)=some (.tp i 0 (cs++ds) (n+1), .tip i (0+(n+1)) sz):=by
      simp[evalAppend,rowS,hT,hds,onlyIf,hb,hTS,hl]
    rw[he]
    refine hK _ _ _ rfl (.inr ⟨by omega,i,by show i<S.nx;omega,rfl,?_⟩) rfl (fun y hy hx=>upd_ne _ _ (fun e=>hx 0 cs n (by rw[e]))) (fun j o cs' m e=>?_) rfl rfl rfl rfl
    · rw[Nat.zero_add];exact upd_same _ _ _
    · cases e;exact .inr ⟨_,_,_,rfl⟩
inductive ValR (S:St):SV→Val→Prop
  | mk {k m:Int} {s:ByteArray} {l:List Val} {ns:List ByteArray} {X Y:SV} (hX:AccD 5 S X (valsCells l) l.length) (hY:AccD 1 S Y (ns.map dS) ns.length):ValR S (.ag [.d (dI k), .d (dI m), .d (dS s),X,Y]) (.mk k m s l ns)
structure ValI (S0 S:St) (R u w:Nat) (c:List UInt8) (q:Nat) (k m:Int) (s:ByteArray) (X Y:SV) (l:List Val) (ns:List ByteArray):Prop where
  n:S.n=89
  gl:S.gl=S0.gl
  md:S.md=[]
  nx:w+1≤S.nx
  rd:S.B R=some (rdP c q)
  res:S.B u=some [.d (dI 0), .d (dI 0), .d (dS ⟨#[]⟩),SV.fl [] 0, .fl [] 0]
  cell:S.B w=some [SV.d (dI k), .d (dI m), .d (dS s),X,Y]
  lst:AccD 5 S X (valsCells l) l.length
  nam:AccD 1 S Y (ns.map dS) ns.length
  old:∀ y,y<u→y≠R→S.B y=S0.B y
  T:∀ y,y<u→S.T y=S0.T y
set_option maxHeartbeats 32000000 in
theorem l_value13 (c:List UInt8) (hc:c.length≤2000):∀ (d:Nat) (S0:St) (R p:Nat),R<S0.nx→S0.B R=some (rdP c p)→p+pB d≤900000→d≤100 →
    ∃ r S',LCall Tryz.prog 99 [.op R 0, .d (dI d)] S0 r S'∧∃ v:Val,ValR S' r v∧Small v∧∃ q,Got S0 S' R (rdP c q) []∧q≤p+pB d:=by
  intro d
  induction d using Nat.strongRecOn with
  | _ d ih =>
  intro S0 R p hR h hp hd
  refine LCall.ex_ (md:=[]) Tryz.func99 rfl (by kernel_rfl) (by kernel_rfl) (n:=89) Tryz.ntmps99 (by simp) (by decide) rfl ?_
  simp[h]
  generalize hu:S0.nx=u at *
  have n1:¬ R=u:=by omega
  have n2:¬ u=R:=by omega
  obtain⟨N,hN⟩:∃ N,u=N:=⟨_,rfl⟩
  obtain⟨Sr,hSr⟩:∃ Sr,S0=Sr:=⟨_,rfl⟩
  have hrO:∀ y,y<N→y≠R→S0.B y=Sr.B y:=fun y _ _=>by rw[hSr]
  have hrT:∀ y,y<N→S0.T y=Sr.T y:=fun y _=>by rw[hSr]
  have hpB:4≤pB d:=by cases d<;>simp[pB];omega
  refine CallT.x (x_one _ R c p _ [0,1,2,2,3,3,4,5] (.inl rfl) (by simp) (by simp) (by first | omega | (simp;omega)) (by simp[h,n1,n2]) hc (by omega)) rfl (fun r1 S1 h1=>?_)
  obtain⟨q1,hG1⟩:=h1
  subst q1
  have S1_n:=hG1.n
  try simp[h,n1,n2] at S1_n
  have S1_gl:=hG1.gl
  try simp[h,n1,n2,S1_n] at S1_gl
  have S1_md:=hG1.md
  try simp[h,n1,n2,S1_n,S1_gl] at S1_md
  have S1_nx:=hG1.nx
  try simp[h,n1,n2,S1_n,S1_gl,S1_md] at S1_nx
  have S1_rd:=hG1.rd
  have u_S1:=hG1.old u (by first | omega | (simp;omega)) (by omega)
  try simp[h,n1,n2,S1_n,S1_gl,S1_md,S1_rd] at u_S1
  have S1_o:∀ y,y<N→y≠R→S1.B y=Sr.B y:=fun y k1 k2=>by
    have a1:=hG1.old y (by first | omega | (simp;omega)) k2
    have y1:¬ y=u:=by omega
    try simp[y1] at a1
    exact a1.trans (hrO y k1 k2)
  have S1_t:∀ y,y<N→S1.T y=Sr.T y:=fun y k1=>by
    have a1:=hG1.T y (by first | omega | (simp;omega))
    try simp at a1
    exact a1.trans (hrT y k1)
  have hk:=oneK_mem c p (l:=[0,1,2,2,3,3,4,5]) (by simp)
  generalize oneK c p [0,1,2,2,3,3,4,5]=k0 at hk
  simp[h,n1,n2,S1_n,S1_gl,S1_md,S1_rd,u_S1]
  -- what is drawn once more where it is too deep
  refine BrT.dec (fun c0=>?_) (fun c0=>?_)
  case' refine_2 =>
    simp[h,n1,n2,S1_n,S1_gl,S1_md,S1_rd,u_S1,c0]
    obtain⟨w,hw,hwn⟩:∃ w,S1.nx+6+2=w∧w<S1.nx+10:=⟨_,rfl,by omega⟩
    rw[hw]
    obtain⟨S2,hS2⟩:∃ S2,S2=S1:=⟨_,rfl⟩
    obtain⟨k,hk3⟩:∃ k,k=k0:=⟨_,rfl⟩
    rw[← hk3] at hk ⊢
    subst hS2
    have S2_n:=S1_n
    have S2_gl:=S1_gl
    have S2_md:=S1_md
    have S2_nx:=S1_nx
    have S2_o:=S1_o
    have S2_t:=S1_t
    have u_S2:=u_S1
    obtain⟨q,hqe⟩:∃ q,q=p+1:=⟨_,rfl⟩
    rw[← hqe] at S1_rd
    have hq:q≤p+2:=by omega
    have S2_rd:=S1_rd
    have hk5:k=0∨k=1∨k=2∨k=3∨∃ e,d=e+1∧1≤e∧(k=4∨k=5):=by
      simp at hk
      have h5:k=0∨k=1∨k=2∨k=3∨(k=4∨k=5):=by omega
      rcases h5 with h | h | h | h | h
      · exact .inl h
      · exact .inr (.inl h)
      · exact .inr (.inr (.inl h))
      · exact .inr (.inr (.inr (.inl h)))
      · exact .inr (.inr (.inr (.inr ⟨d - 1,by omega,by omega,h⟩)))
  case' refine_1 =>
    simp[h,n1,n2,S1_n,S1_gl,S1_md,S1_rd,u_S1,c0]
    refine BrT.dec (fun c1=>?_) (fun c1=>?_)
    case' refine_2 =>
      simp[h,n1,n2,S1_n,S1_gl,S1_md,S1_rd,u_S1,c0,c1]
      obtain⟨w,hw,hwn⟩:∃ w,S1.nx+6+2=w∧w<S1.nx+10:=⟨_,rfl,by omega⟩
      rw[hw]
      obtain⟨S2,hS2⟩:∃ S2,S2=S1:=⟨_,rfl⟩
      obtain⟨k,hk3⟩:∃ k,k=k0:=⟨_,rfl⟩
      rw[← hk3] at hk c1 ⊢
      subst hS2
      have S2_n:=S1_n
      have S2_gl:=S1_gl
      have S2_md:=S1_md
      have S2_nx:=S1_nx
      have S2_o:=S1_o
      have S2_t:=S1_t
      have u_S2:=u_S1
      obtain⟨q,hqe⟩:∃ q,q=p+1:=⟨_,rfl⟩
      rw[← hqe] at S1_rd
      have hq:q≤p+2:=by omega
      have S2_rd:=S1_rd
      have hk5:k=0∨k=1∨k=2∨k=3∨∃ e,d=e+1∧1≤e∧(k=4∨k=5):=by
        simp at hk
        omega
    case' refine_1 =>
      simp[h,n1,n2,S1_n,S1_gl,S1_md,S1_rd,u_S1,c0,c1]
      refine CallT.x (x_pick _ R c (p+1) 4 (by first | omega | (simp;omega)) (by simp[h,n1,n2,S1_n,S1_gl,S1_md,S1_rd,u_S1,c0,c1]) hc (by omega) (by omega) (by omega)) rfl (fun r2 S2 h2=>?_)
      obtain⟨q2,hG2⟩:=h2
      subst q2
      have S2_n:=hG2.n
      try simp[h,n1,n2,S1_n,S1_gl,S1_md,S1_rd,u_S1,c0,c1] at S2_n
      have S2_gl:=hG2.gl
      try simp[h,n1,n2,S1_n,S1_gl,S1_md,S1_rd,u_S1,c0,c1,S2_n] at S2_gl
      have S2_md:=hG2.md
      try simp[h,n1,n2,S1_n,S1_gl,S1_md,S1_rd,u_S1,c0,c1,S2_n,S2_gl] at S2_md
      have S2_nx:=hG2.nx
      try simp[h,n1,n2,S1_n,S1_gl,S1_md,S1_rd,u_S1,c0,c1,S2_n,S2_gl,S2_md] at S2_nx
      have S2_rd:=hG2.rd
      have u_S2:=hG2.old u (by first | omega | (simp;omega)) (by omega)
      try simp[h,n1,n2,S1_n,S1_gl,S1_md,S1_rd,u_S1,c0,c1,S2_n,S2_gl,S2_md,S2_rd] at u_S2
      have S2_o:∀ y,y<N→y≠R→S2.B y=Sr.B y:=fun y k1 k2=>by
        have a1:=hG2.old y (by first | omega | (simp;omega)) k2
        have y1:¬ y=u:=by omega
        try simp[y1] at a1
        exact a1.trans (S1_o y k1 k2)
      have S2_t:∀ y,y<N→S2.T y=Sr.T y:=fun y k1=>by
        have a1:=hG2.T y (by first | omega | (simp;omega))
        try simp at a1
        exact a1.trans (S1_t y k1)
      have hk2:=pickK_lt c (p+1) 4 (by omega)
      obtain⟨k,hk3,hk4⟩:∃ k:Int,(pickK c (p+1) 4:Int)=k∧(k=0∨k=1∨k=2∨k=3):=⟨_,rfl,by omega⟩
      rw[hk3]
      simp[h,n1,n2,S1_n,S1_gl,S1_md,S1_rd,u_S1,c0,c1,S2_n,S2_gl,S2_md,S2_rd,u_S2]
      obtain⟨q,hqe⟩:∃ q,q=p+1+1:=⟨_,rfl⟩
      rw[← hqe] at S2_rd
      have hq:q≤p+2:=by omega
      obtain⟨w,hw,hwn⟩:∃ w,S2.nx+2=w∧w<S2.nx+4:=⟨_,rfl,by omega⟩
      rw[hw]
      have hk5:k=0∨k=1∨k=2∨k=3∨∃ e,d=e+1∧1≤e∧(k=4∨k=5):=by rcases hk4 with h | h | h | h<;>simp[h]
  all_goals
    have m1:¬ R=w:=by omega
    have m2:¬ w=R:=by omega
    have m3:¬ u=w:=by omega
    have m4:¬ w=u:=by omega
    have huw:u<w:=by omega
    rcases hk5 with rfl | rfl | rfl | rfl | ⟨e,rfl,he,rfl | rfl⟩
    · simp[h,n1,n2,S1_n,S1_gl,S1_md,S1_rd,u_S1,c0,S2_n,S2_gl,S2_md,S2_rd,u_S2,m1,m2,m3,m4]
      refine⟨.mk 0 0 ⟨#[]⟩ [] [], .mk AccD.nil AccD.nil,small0 (by decide),q,⟨rfl,rfl,rfl,by simp;omega,by simp[h,n1,n2,S1_n,S1_gl,S1_md,S1_rd,u_S1,c0,S2_n,S2_gl,S2_md,S2_rd,u_S2,m1,m2,m3,m4],?_,?_, .nil⟩,by omega⟩
      · intro y k1 k2
        have z1:¬ y=u:=by omega
        have z2:¬ y=w:=by omega
        simp[z1,z2]
        exact (S2_o y (by omega) k2).trans (by rw[hSr])
      · intro y k1
        exact (S2_t y (by omega)).trans (by rw[hSr])
    · simp[h,n1,n2,S1_n,S1_gl,S1_md,S1_rd,u_S1,c0,S2_n,S2_gl,S2_md,S2_rd,u_S2,m1,m2,m3,m4]
      refine CallT.x (x_pick _ R c q 2 (by first | omega | (simp;omega)) (by simp[h,n1,n2,S1_n,S1_gl,S1_md,S1_rd,u_S1,c0,S2_n,S2_gl,S2_md,S2_rd,u_S2,m1,m2,m3,m4]) hc (by omega) (by omega) (by omega)) rfl (fun r3 S3 h3=>?_)
      obtain⟨q3,hG3⟩:=h3
      subst q3
      have S3_n:=hG3.n
      try simp[h,n1,n2,S1_n,S1_gl,S1_md,S1_rd,u_S1,c0,S2_n,S2_gl,S2_md,S2_rd,u_S2,m1,m2,m3,m4] at S3_n
      have S3_gl:=hG3.gl
      try simp[h,n1,n2,S1_n,S1_gl,S1_md,S1_rd,u_S1,c0,S2_n,S2_gl,S2_md,S2_rd,u_S2,m1,m2,m3,m4,S3_n] at S3_gl
      have S3_md:=hG3.md
      try simp[h,n1,n2,S1_n,S1_gl,S1_md,S1_rd,u_S1,c0,S2_n,S2_gl,S2_md,S2_rd,u_S2,m1,m2,m3,m4,S3_n,S3_gl] at S3_md
      have S3_nx:=hG3.nx
      try simp[h,n1,n2,S1_n,S1_gl,S1_md,S1_rd,u_S1,c0,S2_n,S2_gl,S2_md,S2_rd,u_S2,m1,m2,m3,m4,S3_n,S3_gl,S3_md] at S3_nx
      have S3_rd:=hG3.rd
      have u_S3:=hG3.old u (by first | omega | (simp;omega)) (by omega)
      try simp[h,n1,n2,S1_n,S1_gl,S1_md,S1_rd,u_S1,c0,S2_n,S2_gl,S2_md,S2_rd,u_S2,m1,m2,m3,m4,S3_n,S3_gl,S3_md,S3_rd] at u_S3
      have w_S3:=hG3.old w (by first | omega | (simp;omega)) (by omega)
      try simp[h,n1,n2,S1_n,S1_gl,S1_md,S1_rd,u_S1,c0,S2_n,S2_gl,S2_md,S2_rd,u_S2,m1,m2,m3,m4,S3_n,S3_gl,S3_md,S3_rd,u_S3] at w_S3
      have S3_o:∀ y,y<N→y≠R→S3.B y=Sr.B y:=fun y k1 k2=>by
        have a1:=hG3.old y (by first | omega | (simp;omega)) k2
        have y1:¬ y=u:=by omega
        have y2:¬ y=w:=by omega
        try simp[y1,y2] at a1
        exact a1.trans (S2_o y k1 k2)
      have S3_t:∀ y,y<N→S3.T y=Sr.T y:=fun y k1=>by
        have a1:=hG3.T y (by first | omega | (simp;omega))
        try simp at a1
        exact a1.trans (S2_t y k1)
      simp[h,n1,n2,S1_n,S1_gl,S1_md,S1_rd,u_S1,c0,S2_n,S2_gl,S2_md,S2_rd,u_S2,m1,m2,m3,m4,S3_n,S3_gl,S3_md,S3_rd,u_S3,w_S3]
      refine⟨.mk 1 (pickK c q 2) ⟨#[]⟩ [] [], .mk AccD.nil AccD.nil,small0 (by decide),q+1,⟨rfl,rfl,rfl,by simp;omega,by simp[h,n1,n2,S1_n,S1_gl,S1_md,S1_rd,u_S1,c0,S2_n,S2_gl,S2_md,S2_rd,u_S2,m1,m2,m3,m4,S3_n,S3_gl,S3_md,S3_rd,u_S3,w_S3],?_,?_, .nil⟩,by omega⟩
      · intro y k1 k2
        have z1:¬ y=u:=by omega
        have z2:¬ y=w:=by omega
        simp[z1,z2]
        exact (S3_o y (by omega) k2).trans (by rw[hSr])
      · intro y k1
        exact (S3_t y (by omega)).trans (by rw[hSr])
    · simp[h,n1,n2,S1_n,S1_gl,S1_md,S1_rd,u_S1,c0,S2_n,S2_gl,S2_md,S2_rd,u_S2,m1,m2,m3,m4]
      refine CallT.x (x_one _ R c q _ [0,1, -1,7,42,2147483647, -2147483647] (.inl rfl) (by simp) (by simp) (by first | omega | (simp;omega)) (by simp[h,n1,n2,S1_n,S1_gl,S1_md,S1_rd,u_S1,c0,S2_n,S2_gl,S2_md,S2_rd,u_S2,m1,m2,m3,m4]) hc (by omega)) rfl (fun r3 S3 h3=>?_)
      obtain⟨q3,hG3⟩:=h3
      subst q3
      have S3_n:=hG3.n
      try simp[h,n1,n2,S1_n,S1_gl,S1_md,S1_rd,u_S1,c0,S2_n,S2_gl,S2_md,S2_rd,u_S2,m1,m2,m3,m4] at S3_n
      have S3_gl:=hG3.gl
      try simp[h,n1,n2,S1_n,S1_gl,S1_md,S1_rd,u_S1,c0,S2_n,S2_gl,S2_md,S2_rd,u_S2,m1,m2,m3,m4,S3_n] at S3_gl
      have S3_md:=hG3.md
      try simp[h,n1,n2,S1_n,S1_gl,S1_md,S1_rd,u_S1,c0,S2_n,S2_gl,S2_md,S2_rd,u_S2,m1,m2,m3,m4,S3_n,S3_gl] at S3_md
      have S3_nx:=hG3.nx
      try simp[h,n1,n2,S1_n,S1_gl,S1_md,S1_rd,u_S1,c0,S2_n,S2_gl,S2_md,S2_rd,u_S2,m1,m2,m3,m4,S3_n,S3_gl,S3_md] at S3_nx
      have S3_rd:=hG3.rd
      have u_S3:=hG3.old u (by first | omega | (simp;omega)) (by omega)
      try simp[h,n1,n2,S1_n,S1_gl,S1_md,S1_rd,u_S1,c0,S2_n,S2_gl,S2_md,S2_rd,u_S2,m1,m2,m3,m4,S3_n,S3_gl,S3_md,S3_rd] at u_S3
      have w_S3:=hG3.old w (by first | omega | (simp;omega)) (by omega)
      try simp[h,n1,n2,S1_n,S1_gl,S1_md,S1_rd,u_S1,c0,S2_n,S2_gl,S2_md,S2_rd,u_S2,m1,m2,m3,m4,S3_n,S3_gl,S3_md,S3_rd,u_S3] at w_S3
      have S3_o:∀ y,y<N→y≠R→S3.B y=Sr.B y:=fun y k1 k2=>by
        have a1:=hG3.old y (by first | omega | (simp;omega)) k2
        have y1:¬ y=u:=by omega
        have y2:¬ y=w:=by omega
        try simp[y1,y2] at a1
        exact a1.trans (S2_o y k1 k2)
      have S3_t:∀ y,y<N→S3.T y=Sr.T y:=fun y k1=>by
        have a1:=hG3.T y (by first | omega | (simp;omega))
        try simp at a1
        exact a1.trans (S2_t y k1)
      simp[h,n1,n2,S1_n,S1_gl,S1_md,S1_rd,u_S1,c0,S2_n,S2_gl,S2_md,S2_rd,u_S2,m1,m2,m3,m4,S3_n,S3_gl,S3_md,S3_rd,u_S3,w_S3]
      refine⟨.mk 2 (oneK c q [0,1, -1,7,42,2147483647, -2147483647]) ⟨#[]⟩ [] [], .mk AccD.nil AccD.nil,small0 (by decide),q+1,⟨rfl,rfl,rfl,by simp;omega,by simp[h,n1,n2,S1_n,S1_gl,S1_md,S1_rd,u_S1,c0,S2_n,S2_gl,S2_md,S2_rd,u_S2,m1,m2,m3,m4,S3_n,S3_gl,S3_md,S3_rd,u_S3,w_S3],?_,?_, .nil⟩,by omega⟩
      · intro y k1 k2
        have z1:¬ y=u:=by omega
        have z2:¬ y=w:=by omega
        simp[z1,z2]
        exact (S3_o y (by omega) k2).trans (by rw[hSr])
      · intro y k1
        exact (S3_t y (by omega)).trans (by rw[hSr])
    · simp[h,n1,n2,S1_n,S1_gl,S1_md,S1_rd,u_S1,c0,S2_n,S2_gl,S2_md,S2_rd,u_S2,m1,m2,m3,m4]
      refine CallT.x (l_text13 _ R c q (by first | omega | (simp;omega)) (by simp[h,n1,n2,S1_n,S1_gl,S1_md,S1_rd,u_S1,c0,S2_n,S2_gl,S2_md,S2_rd,u_S2,m1,m2,m3,m4]) hc (by omega)) rfl (fun r3 S3 h3=>?_)
      obtain⟨s,q3,hs,hG3⟩:=h3
      subst q3
      have S3_n:=hG3.n
      try simp[h,n1,n2,S1_n,S1_gl,S1_md,S1_rd,u_S1,c0,S2_n,S2_gl,S2_md,S2_rd,u_S2,m1,m2,m3,m4] at S3_n
      have S3_gl:=hG3.gl
      try simp[h,n1,n2,S1_n,S1_gl,S1_md,S1_rd,u_S1,c0,S2_n,S2_gl,S2_md,S2_rd,u_S2,m1,m2,m3,m4,S3_n] at S3_gl
      have S3_md:=hG3.md
      try simp[h,n1,n2,S1_n,S1_gl,S1_md,S1_rd,u_S1,c0,S2_n,S2_gl,S2_md,S2_rd,u_S2,m1,m2,m3,m4,S3_n,S3_gl] at S3_md
      have S3_nx:=hG3.nx
      try simp[h,n1,n2,S1_n,S1_gl,S1_md,S1_rd,u_S1,c0,S2_n,S2_gl,S2_md,S2_rd,u_S2,m1,m2,m3,m4,S3_n,S3_gl,S3_md] at S3_nx
      have S3_rd:=hG3.rd
      have u_S3:=hG3.old u (by first | omega | (simp;omega)) (by omega)
      try simp[h,n1,n2,S1_n,S1_gl,S1_md,S1_rd,u_S1,c0,S2_n,S2_gl,S2_md,S2_rd,u_S2,m1,m2,m3,m4,S3_n,S3_gl,S3_md,S3_rd] at u_S3
      have w_S3:=hG3.old w (by first | omega | (simp;omega)) (by omega)
      try simp[h,n1,n2,S1_n,S1_gl,S1_md,S1_rd,u_S1,c0,S2_n,S2_gl,S2_md,S2_rd,u_S2,m1,m2,m3,m4,S3_n,S3_gl,S3_md,S3_rd,u_S3] at w_S3
      have S3_o:∀ y,y<N→y≠R→S3.B y=Sr.B y:=fun y k1 k2=>by
        have a1:=hG3.old y (by first | omega | (simp;omega)) k2
        have y1:¬ y=u:=by omega
        have y2:¬ y=w:=by omega
        try simp[y1,y2] at a1
        exact a1.trans (S2_o y k1 k2)
      have S3_t:∀ y,y<N→S3.T y=Sr.T y:=fun y k1=>by
        have a1:=hG3.T y (by first | omega | (simp;omega))
        try simp at a1
        exact a1.trans (S2_t y k1)
      simp[h,n1,n2,S1_n,S1_gl,S1_md,S1_rd,u_S1,c0,S2_n,S2_gl,S2_md,S2_rd,u_S2,m1,m2,m3,m4,S3_n,S3_gl,S3_md,S3_rd,u_S3,w_S3]
      refine⟨.mk 3 0 s [] [], .mk AccD.nil AccD.nil,small0 (by omega),q+1,⟨rfl,rfl,rfl,by simp;omega,by simp[h,n1,n2,S1_n,S1_gl,S1_md,S1_rd,u_S1,c0,S2_n,S2_gl,S2_md,S2_rd,u_S2,m1,m2,m3,m4,S3_n,S3_gl,S3_md,S3_rd,u_S3,w_S3],?_,?_, .nil⟩,by omega⟩
      · intro y k1 k2
        have z1:¬ y=u:=by omega
        have z2:¬ y=w:=by omega
        simp[z1,z2]
        exact (S3_o y (by omega) k2).trans (by rw[hSr])
      · intro y k1
        exact (S3_t y (by omega)).trans (by rw[hSr])
    · try (exfalso;omega)
      all_goals
        have he1:pB (e+1)=8+3*(1+pB e):=rfl
        have w1:((e+1:Nat):Int) - 1=(e:Int):=by omega
        have w2:=wrap64 (n:=(e:Int)) (by omega) (by omega)
        simp[h,n1,n2,S1_n,S1_gl,S1_md,S1_rd,u_S1,c0,S2_n,S2_gl,S2_md,S2_rd,u_S2,m1,m2,m3,m4,w1,w2]
        refine CallT.x (x_pick _ R c q 4 (by first | omega | (simp;omega)) (by simp[h,n1,n2,S1_n,S1_gl,S1_md,S1_rd,u_S1,c0,S2_n,S2_gl,S2_md,S2_rd,u_S2,m1,m2,m3,m4,w1,w2]) hc (by omega) (by omega) (by omega)) rfl (fun r3 S3 h3=>?_)
        obtain⟨q3,hG3⟩:=h3
        subst q3
        have S3_n:=hG3.n
        try simp[h,n1,n2,S1_n,S1_gl,S1_md,S1_rd,u_S1,c0,S2_n,S2_gl,S2_md,S2_rd,u_S2,m1,m2,m3,m4,w1,w2] at S3_n
        have S3_gl:=hG3.gl
        try simp[h,n1,n2,S1_n,S1_gl,S1_md,S1_rd,u_S1,c0,S2_n,S2_gl,S2_md,S2_rd,u_S2,m1,m2,m3,m4,w1,w2,S3_n] at S3_gl
        have S3_md:=hG3.md
        try simp[h,n1,n2,S1_n,S1_gl,S1_md,S1_rd,u_S1,c0,S2_n,S2_gl,S2_md,S2_rd,u_S2,m1,m2,m3,m4,w1,w2,S3_n,S3_gl] at S3_md
        have S3_nx:=hG3.nx
        try simp[h,n1,n2,S1_n,S1_gl,S1_md,S1_rd,u_S1,c0,S2_n,S2_gl,S2_md,S2_rd,u_S2,m1,m2,m3,m4,w1,w2,S3_n,S3_gl,S3_md] at S3_nx
        have S3_rd:=hG3.rd
        have u_S3:=hG3.old u (by first | omega | (simp;omega)) (by omega)
        try simp[h,n1,n2,S1_n,S1_gl,S1_md,S1_rd,u_S1,c0,S2_n,S2_gl,S2_md,S2_rd,u_S2,m1,m2,m3,m4,w1,w2,S3_n,S3_gl,S3_md,S3_rd] at u_S3
        have w_S3:=hG3.old w (by first | omega | (simp;omega)) (by omega)
        try simp[h,n1,n2,S1_n,S1_gl,S1_md,S1_rd,u_S1,c0,S2_n,S2_gl,S2_md,S2_rd,u_S2,m1,m2,m3,m4,w1,w2,S3_n,S3_gl,S3_md,S3_rd,u_S3] at w_S3
        have S3_o:∀ y,y<N→y≠R→S3.B y=Sr.B y:=fun y k1 k2=>by
          have a1:=hG3.old y (by first | omega | (simp;omega)) k2
          have y1:¬ y=u:=by omega
          have y2:¬ y=w:=by omega
          try simp[y1,y2] at a1
          exact a1.trans (S2_o y k1 k2)
        have S3_t:∀ y,y<N→S3.T y=Sr.T y:=fun y k1=>by
          have a1:=hG3.T y (by first | omega | (simp;omega))
          try simp at a1
          exact a1.trans (S2_t y k1)
        have hn3:=pickK_lt c q 4 (by omega)
        generalize pickK c q 4=n3 at hn3
        simp[h,n1,n2,S1_n,S1_gl,S1_md,S1_rd,u_S1,c0,S2_n,S2_gl,S2_md,S2_rd,u_S2,m1,m2,m3,m4,w1,w2,S3_n,S3_gl,S3_md,S3_rd,u_S3,w_S3]
        refine LoopT.round (fun E S=>∃ (n:Nat) (qq:Nat) (X:SV) (vl:List Val),(S.B R=some (rdP c qq))∧(S.B u=some [.d (dI 0), .d (dI 0), .d (dS ⟨#[]⟩), .fl [] 0, .fl [] 0])∧(S.B w=some [.d (dI 4), .d (dI 0), .d (dS ⟨#[]⟩),X, .fl [] 0])∧(AccD 5 S X (valsCells vl) vl.length)∧(∀ v∈vl,Small v)∧(vl.length+n≤3)∧(qq+n*(1+pB e)≤q+1+3*(1+pB e))∧(∀ y,y<N→y≠R→S.B y=Sr.B y)∧(∀ y,y<N→S.T y=Sr.T y)∧(∀ i o cs m,X=.tp i o cs m→N≤i)∧(w+1≤S.nx)∧E 7=some (.d (dI n))∧E 0=some (.op R 0)∧E 1=some (.d (dI (e+1:Nat)))∧E 4=some (.op u 0)∧E 6=some (.op w 0)) (fun E S=>match E 7 with | some (.d (.v (.int _ i)))=>i.toNat | _=>0) ⟨n3,q+1, .fl [] 0,[],by simp[h,n1,n2,S1_n,S1_gl,S1_md,S1_rd,u_S1,c0,S2_n,S2_gl,S2_md,S2_rd,u_S2,m1,m2,m3,m4,w1,w2,S3_n,S3_gl,S3_md,S3_rd,u_S3,w_S3];exact⟨AccD.nil,by omega,Nat.mul_le_mul_right _ (by omega),S3_o,S3_t,by omega⟩⟩ ?_
        rintro E S hk ⟨n,qq,X,vl,hrd,hBu,hBw,hA,hSm,hvl,hqq,hrO2,hrT2,hXN,hnx,h7,h0,h1,h4,h6⟩
        have hn:S.n=89:=by first | (simpa using hk.n)|(have hh:=hk.n;simp[h,n1,n2,S1_n,S1_gl,S1_md,S1_rd,u_S1,c0,S2_n,S2_gl,S2_md,S2_rd,u_S2,m1,m2,m3,m4,w1,w2,S3_n,S3_gl,S3_md,S3_rd,u_S3,w_S3] at hh;exact hh)
        have hg:S.gl=S0.gl:=by first | (simpa using hk.gl)|(have hh:=hk.gl;simp[h,n1,n2,S1_n,S1_gl,S1_md,S1_rd,u_S1,c0,S2_n,S2_gl,S2_md,S2_rd,u_S2,m1,m2,m3,m4,w1,w2,S3_n,S3_gl,S3_md,S3_rd,u_S3,w_S3] at hh;exact hh)
        have hmd:S.md=[]:=by first | (simpa using hk.md)|(have hh:=hk.md;simp[h,n1,n2,S1_n,S1_gl,S1_md,S1_rd,u_S1,c0,S2_n,S2_gl,S2_md,S2_rd,u_S2,m1,m2,m3,m4,w1,w2,S3_n,S3_gl,S3_md,S3_rd,u_S3,w_S3] at hh;exact hh)
        simp[h,n1,n2,S1_n,S1_gl,S1_md,S1_rd,u_S1,c0,S2_n,S2_gl,S2_md,S2_rd,u_S2,m1,m2,m3,m4,w1,w2,S3_n,S3_gl,S3_md,S3_rd,u_S3,w_S3,h7,h0,h1,h4,h6,hn,hg,hmd]
        refine BrT.dec (fun c2=>?_) (fun c2=>?_)
        · obtain⟨n',rfl⟩:∃ n',n=n'+1:=⟨n - 1,by omega⟩
          rw[Nat.succ_mul] at hqq
          have w3:((n'+1:Nat):Int) - 1=(n':Int):=by omega
          have w4:=wrap64 (n:=(n':Int)) (by omega) (by omega)
          simp[h,n1,n2,S1_n,S1_gl,S1_md,S1_rd,u_S1,c0,S2_n,S2_gl,S2_md,S2_rd,u_S2,m1,m2,m3,m4,w1,w2,S3_n,S3_gl,S3_md,S3_rd,u_S3,w_S3,h7,h0,h1,h4,h6,hn,hg,hmd,c2,hrd,hBu,hBw,w3,w4]
          refine⟨DrawT.mk (by kernel_rfl),?_⟩
          obtain⟨r5,S5,hL5,v,hv,hvs,q5,hG5,hq5⟩:=ih e (by omega) ((S.adv 2).adv 10) R qq (by first | omega | (simp;omega)) (by simp[h,n1,n2,S1_n,S1_gl,S1_md,S1_rd,u_S1,c0,S2_n,S2_gl,S2_md,S2_rd,u_S2,m1,m2,m3,m4,w1,w2,S3_n,S3_gl,S3_md,S3_rd,u_S3,w_S3,h7,h0,h1,h4,h6,hn,hg,hmd,c2,hrd,hBu,hBw,w3,w4]) (by omega) (by omega)
          have S5_n:=hG5.n
          try simp[h,n1,n2,S1_n,S1_gl,S1_md,S1_rd,u_S1,c0,S2_n,S2_gl,S2_md,S2_rd,u_S2,m1,m2,m3,m4,w1,w2,S3_n,S3_gl,S3_md,S3_rd,u_S3,w_S3,h7,h0,h1,h4,h6,hn,hg,hmd,c2,hrd,hBu,hBw,w3,w4] at S5_n
          have S5_gl:=hG5.gl
          try simp[h,n1,n2,S1_n,S1_gl,S1_md,S1_rd,u_S1,c0,S2_n,S2_gl,S2_md,S2_rd,u_S2,m1,m2,m3,m4,w1,w2,S3_n,S3_gl,S3_md,S3_rd,u_S3,w_S3,h7,h0,h1,h4,h6,hn,hg,hmd,c2,hrd,hBu,hBw,w3,w4,S5_n] at S5_gl
          have S5_md:=hG5.md
          try simp[h,n1,n2,S1_n,S1_gl,S1_md,S1_rd,u_S1,c0,S2_n,S2_gl,S2_md,S2_rd,u_S2,m1,m2,m3,m4,w1,w2,S3_n,S3_gl,S3_md,S3_rd,u_S3,w_S3,h7,h0,h1,h4,h6,hn,hg,hmd,c2,hrd,hBu,hBw,w3,w4,S5_n,S5_gl] at S5_md
          have S5_nx:=hG5.nx
          try simp[h,n1,n2,S1_n,S1_gl,S1_md,S1_rd,u_S1,c0,S2_n,S2_gl,S2_md,S2_rd,u_S2,m1,m2,m3,m4,w1,w2,S3_n,S3_gl,S3_md,S3_rd,u_S3,w_S3,h7,h0,h1,h4,h6,hn,hg,hmd,c2,hrd,hBu,hBw,w3,w4,S5_n,S5_gl,S5_md] at S5_nx
          have S5_rd:=hG5.rd
          have u_S5:=hG5.old u (by first | omega | (simp;omega)) (by omega)
          try simp[h,n1,n2,S1_n,S1_gl,S1_md,S1_rd,u_S1,c0,S2_n,S2_gl,S2_md,S2_rd,u_S2,m1,m2,m3,m4,w1,w2,S3_n,S3_gl,S3_md,S3_rd,u_S3,w_S3,h7,h0,h1,h4,h6,hn,hg,hmd,c2,hrd,hBu,hBw,w3,w4,S5_n,S5_gl,S5_md,S5_rd] at u_S5
          have w_S5:=hG5.old w (by first | omega | (simp;omega)) (by omega)
          try simp[h,n1,n2,S1_n,S1_gl,S1_md,S1_rd,u_S1,c0,S2_n,S2_gl,S2_md,S2_rd,u_S2,m1,m2,m3,m4,w1,w2,S3_n,S3_gl,S3_md,S3_rd,u_S3,w_S3,h7,h0,h1,h4,h6,hn,hg,hmd,c2,hrd,hBu,hBw,w3,w4,S5_n,S5_gl,S5_md,S5_rd,u_S5] at w_S5
          have S5_o:∀ y,y<N→y≠R→S5.B y=Sr.B y:=fun y k1 k2=>by
            have a1:=hG5.old y (by first | omega | (simp;omega)) k2
            have y1:¬ y=u:=by omega
            have y2:¬ y=w:=by omega
            try simp[y1,y2] at a1
            exact a1.trans (hrO2 y k1 k2)
          have S5_t:∀ y,y<N→S5.T y=Sr.T y:=fun y k1=>by
            have a1:=hG5.T y (by first | omega | (simp;omega))
            try simp at a1
            exact a1.trans (hrT2 y k1)
          refine CallT.calm [((1,6),5)] (by kernel_rfl) (by kernel_rfl) hL5 ?_ ?_
          · simp[h,n1,n2,S1_n,S1_gl,S1_md,S1_rd,u_S1,c0,S2_n,S2_gl,S2_md,S2_rd,u_S2,m1,m2,m3,m4,w1,w2,S3_n,S3_gl,S3_md,S3_rd,u_S3,w_S3,h7,h0,h1,h4,h6,hn,hg,hmd,c2,hrd,hBu,hBw,w3,w4,S5_n,S5_gl,S5_md,S5_rd,u_S5,w_S5,Eh.e,refOf]
          obtain⟨hX5,hY5⟩:=hv
          obtain⟨x1,x2,x3⟩:=hX5.one
          obtain⟨y1,y2,y3⟩:=hY5.one
          obtain⟨z1,z2,z3⟩:=hA.one
          have hxD:=hX5.toD
          have hyD:=hY5.toD
          simp[h,n1,n2,S1_n,S1_gl,S1_md,S1_rd,u_S1,c0,S2_n,S2_gl,S2_md,S2_rd,u_S2,m1,m2,m3,m4,w1,w2,S3_n,S3_gl,S3_md,S3_rd,u_S3,w_S3,h7,h0,h1,h4,h6,hn,hg,hmd,c2,hrd,hBu,hBw,w3,w4,S5_n,S5_gl,S5_md,S5_rd,u_S5,w_S5,x1,x2,x3,y1,y2,y3,z1,z2,z3,hxD,hyD]
          rename_i k5 m5 s5 l5 ns5 X5 Y5
          refine OpT_addD (e:=36) (by_:=80) (by kernel_rfl) hA (valsCells_len _) rfl (by unfold appBound;omega) (fun i hi=>hG5.T i (by simp;omega)) (by omega) (by omega) S5_md (fun X9 S9 E9 hE9 hA9 hB9 hT9 hX9 hnx9 hn9 hg9 hm9=>?_)
          rw[hE9]
          have S9_B:∀ y,S9.B y=S5.B y:=fun y=>congrFun hB9 y
          obtain⟨v1,v2,v3⟩:=hA9.one
          rw[S5_n] at hn9
          rw[S5_gl] at hg9
          rw[S5_md] at hm9
          simp[h,n1,n2,S1_n,S1_gl,S1_md,S1_rd,u_S1,c0,S2_n,S2_gl,S2_md,S2_rd,u_S2,m1,m2,m3,m4,w1,w2,S3_n,S3_gl,S3_md,S3_rd,u_S3,w_S3,h7,h0,h1,h4,h6,hn,hg,hmd,c2,hrd,hBu,hBw,w3,w4,S5_n,S5_gl,S5_md,S5_rd,u_S5,w_S5,x1,x2,x3,y1,y2,y3,z1,z2,z3,hxD,hyD,S9_B,v1,v2,v3,hn9,hg9,hm9]
          have e9:valsCells (vl++[Val.mk k5 m5 s5 l5 ns5])=valsCells vl++[dI k5,dI m5,dS s5, .ps (valsCells l5) l5.length, .ps (ns5.map dS) ns5.length]:=by
            rw[valsCells_row,valsCells_row];simp[Val.cells]
          refine⟨n',q5,rfl,vl++[.mk k5 m5 s5 l5 ns5],?_,?_,by simp;omega,by omega,?_,?_,?_,by omega,rfl⟩
          · rw[e9,List.length_append]
            exact hA9.mono (by simp) (fun _ _=>rfl)
          · intro v hv
            rcases List.mem_append.1 hv with h | h
            · exact hSm v h
            · rw[List.mem_singleton] at h;rw[h];exact hvs
          · intro y k1 k2
            rw[if_neg (by omega)]
            exact S5_o y k1 k2
          · intro y k1
            rw[hT9 y (by omega) (fun o cs m e=>by have:=hXN _ _ _ _ e;omega)]
            exact S5_t y k1
          · intro i o cs m e
            rcases hX9 i o cs m e with h | ⟨o',cs',m',h⟩
            · omega
            · exact hXN _ _ _ _ h
        · have hn0:n=0:=by omega
          subst hn0
          obtain⟨z1,z2,z3⟩:=hA.one
          simp[h,n1,n2,S1_n,S1_gl,S1_md,S1_rd,u_S1,c0,S2_n,S2_gl,S2_md,S2_rd,u_S2,m1,m2,m3,m4,w1,w2,S3_n,S3_gl,S3_md,S3_rd,u_S3,w_S3,h7,h0,h1,h4,h6,hn,hg,hmd,c2,hrd,hBu,hBw,z1,z2,z3]
          refine⟨.mk 4 0 ⟨#[]⟩ vl [], .mk (hA.mono (by simp) (fun _ _=>rfl)) AccD.nil, .mk (by decide) (by simp) (by simp) (by omega) hSm,qq,⟨rfl,rfl,rfl,by simp;omega,by simp[h,n1,n2,S1_n,S1_gl,S1_md,S1_rd,u_S1,c0,S2_n,S2_gl,S2_md,S2_rd,u_S2,m1,m2,m3,m4,w1,w2,S3_n,S3_gl,S3_md,S3_rd,u_S3,w_S3,h7,h0,h1,h4,h6,hn,hg,hmd,c2,hrd,hBu,hBw,z1,z2,z3],?_,?_, .nil⟩,by omega⟩
          · intro y k1 k2
            have z1:¬ y=u:=by omega
            simp[z1]
            exact (hrO2 y (by omega) k2).trans (by rw[hSr])
          · intro y k1
            exact (hrT2 y (by omega)).trans (by rw[hSr])
    · try (exfalso;omega)
      all_goals
        have he1:pB (e+1)=8+3*(1+pB e):=rfl
        have w1:((e+1:Nat):Int) - 1=(e:Int):=by omega
        have w2:=wrap64 (n:=(e:Int)) (by omega) (by omega)
        simp[h,n1,n2,S1_n,S1_gl,S1_md,S1_rd,u_S1,c0,S2_n,S2_gl,S2_md,S2_rd,u_S2,m1,m2,m3,m4,w1,w2]
        refine CallT.x (x_pick _ R c q 4 (by first | omega | (simp;omega)) (by simp[h,n1,n2,S1_n,S1_gl,S1_md,S1_rd,u_S1,c0,S2_n,S2_gl,S2_md,S2_rd,u_S2,m1,m2,m3,m4,w1,w2]) hc (by omega) (by omega) (by omega)) rfl (fun r3 S3 h3=>?_)
        obtain⟨q3,hG3⟩:=h3
        subst q3
        have S3_n:=hG3.n
        try simp[h,n1,n2,S1_n,S1_gl,S1_md,S1_rd,u_S1,c0,S2_n,S2_gl,S2_md,S2_rd,u_S2,m1,m2,m3,m4,w1,w2] at S3_n
        have S3_gl:=hG3.gl
        try simp[h,n1,n2,S1_n,S1_gl,S1_md,S1_rd,u_S1,c0,S2_n,S2_gl,S2_md,S2_rd,u_S2,m1,m2,m3,m4,w1,w2,S3_n] at S3_gl
        have S3_md:=hG3.md
        try simp[h,n1,n2,S1_n,S1_gl,S1_md,S1_rd,u_S1,c0,S2_n,S2_gl,S2_md,S2_rd,u_S2,m1,m2,m3,m4,w1,w2,S3_n,S3_gl] at S3_md
        have S3_nx:=hG3.nx
        try simp[h,n1,n2,S1_n,S1_gl,S1_md,S1_rd,u_S1,c0,S2_n,S2_gl,S2_md,S2_rd,u_S2,m1,m2,m3,m4,w1,w2,S3_n,S3_gl,S3_md] at S3_nx
        have S3_rd:=hG3.rd
        have u_S3:=hG3.old u (by first | omega | (simp;omega)) (by omega)
        try simp[h,n1,n2,S1_n,S1_gl,S1_md,S1_rd,u_S1,c0,S2_n,S2_gl,S2_md,S2_rd,u_S2,m1,m2,m3,m4,w1,w2,S3_n,S3_gl,S3_md,S3_rd] at u_S3
        have w_S3:=hG3.old w (by first | omega | (simp;omega)) (by omega)
        try simp[h,n1,n2,S1_n,S1_gl,S1_md,S1_rd,u_S1,c0,S2_n,S2_gl,S2_md,S2_rd,u_S2,m1,m2,m3,m4,w1,w2,S3_n,S3_gl,S3_md,S3_rd,u_S3] at w_S3
        have S3_o:∀ y,y<N→y≠R→S3.B y=Sr.B y:=fun y k1 k2=>by
          have a1:=hG3.old y (by first | omega | (simp;omega)) k2
          have y1:¬ y=u:=by omega
          have y2:¬ y=w:=by omega
          try simp[y1,y2] at a1
          exact a1.trans (S2_o y k1 k2)
        have S3_t:∀ y,y<N→S3.T y=Sr.T y:=fun y k1=>by
          have a1:=hG3.T y (by first | omega | (simp;omega))
          try simp at a1
          exact a1.trans (S2_t y k1)
        have hn3:=pickK_lt c q 4 (by omega)
        generalize pickK c q 4=n3 at hn3
        simp[h,n1,n2,S1_n,S1_gl,S1_md,S1_rd,u_S1,c0,S2_n,S2_gl,S2_md,S2_rd,u_S2,m1,m2,m3,m4,w1,w2,S3_n,S3_gl,S3_md,S3_rd,u_S3,w_S3]
        refine LoopT.round (fun E S=>∃ (n:Nat) (qq:Nat) (X:SV) (Y:SV) (vl:List Val) (ns:List ByteArray),(S.B R=some (rdP c qq))∧(S.B u=some [.d (dI 0), .d (dI 0), .d (dS ⟨#[]⟩), .fl [] 0, .fl [] 0])∧(S.B w=some [.d (dI 5), .d (dI 0), .d (dS ⟨#[]⟩),X,Y])∧(AccD 5 S X (valsCells vl) vl.length)∧(AccD 1 S Y (ns.map dS) ns.length)∧(∀ v∈vl,Small v)∧(∀ s∈ns,s.size≤40)∧(vl.length+n≤3)∧(ns.length+n≤3)∧(qq+n*(2+pB e)≤q+1+3*(2+pB e))∧(∀ y,y<N→y≠R→S.B y=Sr.B y)∧(∀ y,y<N→S.T y=Sr.T y)∧(∀ i o cs m,X=.tp i o cs m→N≤i)∧(∀ i o cs m,Y=.tp i o cs m→N≤i)∧(w+1≤S.nx)∧E 8=some (.d (dI n))∧E 0=some (.op R 0)∧E 1=some (.d (dI (e+1:Nat)))∧E 4=some (.op u 0)∧E 6=some (.op w 0)) (fun E S=>match E 8 with | some (.d (.v (.int _ i)))=>i.toNat | _=>0) ⟨n3,q+1, .fl [] 0, .fl [] 0,[],[],by simp[h,n1,n2,S1_n,S1_gl,S1_md,S1_rd,u_S1,c0,S2_n,S2_gl,S2_md,S2_rd,u_S2,m1,m2,m3,m4,w1,w2,S3_n,S3_gl,S3_md,S3_rd,u_S3,w_S3];exact⟨AccD.nil,AccD.nil,by omega,Nat.mul_le_mul_right _ (by omega),S3_o,S3_t,by omega⟩⟩ ?_
        rintro E S hk ⟨n,qq,X,Y,vl,ns,hrd,hBu,hBw,hA,hA1,hSm,hns,hvl,hnl,hqq,hrO2,hrT2,hXN,hYN,hnx,h8,h0,h1,h4,h6⟩
        have hn:S.n=89:=by first | (simpa using hk.n)|(have hh:=hk.n;simp[h,n1,n2,S1_n,S1_gl,S1_md,S1_rd,u_S1,c0,S2_n,S2_gl,S2_md,S2_rd,u_S2,m1,m2,m3,m4,w1,w2,S3_n,S3_gl,S3_md,S3_rd,u_S3,w_S3] at hh;exact hh)
        have hg:S.gl=S0.gl:=by first | (simpa using hk.gl)|(have hh:=hk.gl;simp[h,n1,n2,S1_n,S1_gl,S1_md,S1_rd,u_S1,c0,S2_n,S2_gl,S2_md,S2_rd,u_S2,m1,m2,m3,m4,w1,w2,S3_n,S3_gl,S3_md,S3_rd,u_S3,w_S3] at hh;exact hh)
        have hmd:S.md=[]:=by first | (simpa using hk.md)|(have hh:=hk.md;simp[h,n1,n2,S1_n,S1_gl,S1_md,S1_rd,u_S1,c0,S2_n,S2_gl,S2_md,S2_rd,u_S2,m1,m2,m3,m4,w1,w2,S3_n,S3_gl,S3_md,S3_rd,u_S3,w_S3] at hh;exact hh)
        simp[h,n1,n2,S1_n,S1_gl,S1_md,S1_rd,u_S1,c0,S2_n,S2_gl,S2_md,S2_rd,u_S2,m1,m2,m3,m4,w1,w2,S3_n,S3_gl,S3_md,S3_rd,u_S3,w_S3,h8,h0,h1,h4,h6,hn,hg,hmd]
        refine BrT.dec (fun c2=>?_) (fun c2=>?_)
        · obtain⟨n',rfl⟩:∃ n',n=n'+1:=⟨n - 1,by omega⟩
          rw[Nat.succ_mul] at hqq
          have w3:((n'+1:Nat):Int) - 1=(n':Int):=by omega
          have w4:=wrap64 (n:=(n':Int)) (by omega) (by omega)
          simp[h,n1,n2,S1_n,S1_gl,S1_md,S1_rd,u_S1,c0,S2_n,S2_gl,S2_md,S2_rd,u_S2,m1,m2,m3,m4,w1,w2,S3_n,S3_gl,S3_md,S3_rd,u_S3,w_S3,h8,h0,h1,h4,h6,hn,hg,hmd,c2,hrd,hBu,hBw,w3,w4]
          refine CallT.x (x_of _ R c qq _ [⟨#[97]⟩,⟨#[98]⟩,⟨#[99]⟩,⟨#[114,101,102]⟩,⟨#[120,49]⟩] (.inl rfl) (by simp) (by simp) (by first | omega | (simp;omega)) (by simp[h,n1,n2,S1_n,S1_gl,S1_md,S1_rd,u_S1,c0,S2_n,S2_gl,S2_md,S2_rd,u_S2,m1,m2,m3,m4,w1,w2,S3_n,S3_gl,S3_md,S3_rd,u_S3,w_S3,h8,h0,h1,h4,h6,hn,hg,hmd,c2,hrd,hBu,hBw,w3,w4]) hc (by omega)) rfl (fun r4 S4 h4=>?_)
          obtain⟨q4,hG4⟩:=h4
          subst q4
          have S4_n:=hG4.n
          try simp[h,n1,n2,S1_n,S1_gl,S1_md,S1_rd,u_S1,c0,S2_n,S2_gl,S2_md,S2_rd,u_S2,m1,m2,m3,m4,w1,w2,S3_n,S3_gl,S3_md,S3_rd,u_S3,w_S3,h8,h0,h1,h4,h6,hn,hg,hmd,c2,hrd,hBu,hBw,w3,w4] at S4_n
          have S4_gl:=hG4.gl
          try simp[h,n1,n2,S1_n,S1_gl,S1_md,S1_rd,u_S1,c0,S2_n,S2_gl,S2_md,S2_rd,u_S2,m1,m2,m3,m4,w1,w2,S3_n,S3_gl,S3_md,S3_rd,u_S3,w_S3,h8,h0,h1,h4,h6,hn,hg,hmd,c2,hrd,hBu,hBw,w3,w4,S4_n] at S4_gl
          have S4_md:=hG4.md
          try simp[h,n1,n2,S1_n,S1_gl,S1_md,S1_rd,u_S1,c0,S2_n,S2_gl,S2_md,S2_rd,u_S2,m1,m2,m3,m4,w1,w2,S3_n,S3_gl,S3_md,S3_rd,u_S3,w_S3,h8,h0,h1,h4,h6,hn,hg,hmd,c2,hrd,hBu,hBw,w3,w4,S4_n,S4_gl] at S4_md
          have S4_nx:=hG4.nx
          try simp[h,n1,n2,S1_n,S1_gl,S1_md,S1_rd,u_S1,c0,S2_n,S2_gl,S2_md,S2_rd,u_S2,m1,m2,m3,m4,w1,w2,S3_n,S3_gl,S3_md,S3_rd,u_S3,w_S3,h8,h0,h1,h4,h6,hn,hg,hmd,c2,hrd,hBu,hBw,w3,w4,S4_n,S4_gl,S4_md] at S4_nx
          have S4_rd:=hG4.rd
          have u_S4:=hG4.old u (by first | omega | (simp;omega)) (by omega)
          try simp[h,n1,n2,S1_n,S1_gl,S1_md,S1_rd,u_S1,c0,S2_n,S2_gl,S2_md,S2_rd,u_S2,m1,m2,m3,m4,w1,w2,S3_n,S3_gl,S3_md,S3_rd,u_S3,w_S3,h8,h0,h1,h4,h6,hn,hg,hmd,c2,hrd,hBu,hBw,w3,w4,S4_n,S4_gl,S4_md,S4_rd] at u_S4
          have w_S4:=hG4.old w (by first | omega | (simp;omega)) (by omega)
          try simp[h,n1,n2,S1_n,S1_gl,S1_md,S1_rd,u_S1,c0,S2_n,S2_gl,S2_md,S2_rd,u_S2,m1,m2,m3,m4,w1,w2,S3_n,S3_gl,S3_md,S3_rd,u_S3,w_S3,h8,h0,h1,h4,h6,hn,hg,hmd,c2,hrd,hBu,hBw,w3,w4,S4_n,S4_gl,S4_md,S4_rd,u_S4] at w_S4
          have S4_o:∀ y,y<N→y≠R→S4.B y=Sr.B y:=fun y k1 k2=>by
            have a1:=hG4.old y (by first | omega | (simp;omega)) k2
            have y1:¬ y=u:=by omega
            have y2:¬ y=w:=by omega
            try simp[y1,y2] at a1
            exact a1.trans (hrO2 y k1 k2)
          have S4_t:∀ y,y<N→S4.T y=Sr.T y:=fun y k1=>by
            have a1:=hG4.T y (by first | omega | (simp;omega))
            try simp at a1
            exact a1.trans (hrT2 y k1)
          have hnm:=ofK_mem c qq (l:=[⟨#[97]⟩,⟨#[98]⟩,⟨#[99]⟩,⟨#[114,101,102]⟩,⟨#[120,49]⟩]) (by simp)
          generalize ofK c qq _=nm at hnm
          have hnz:nm.size≤40:=by
            simp only[List.mem_cons,List.not_mem_nil,or_false] at hnm
            rcases hnm with rfl | rfl | rfl | rfl | rfl<;>decide
          obtain⟨z1,z2,z3⟩:=hA.one
          obtain⟨t1,t2,t3⟩:=hA1.one
          have hyD:=hA1.toD
          simp[h,n1,n2,S1_n,S1_gl,S1_md,S1_rd,u_S1,c0,S2_n,S2_gl,S2_md,S2_rd,u_S2,m1,m2,m3,m4,w1,w2,S3_n,S3_gl,S3_md,S3_rd,u_S3,w_S3,h8,h0,h1,h4,h6,hn,hg,hmd,c2,hrd,hBu,hBw,w3,w4,S4_n,S4_gl,S4_md,S4_rd,u_S4,w_S4,z1,z2,z3,t1,t2,t3,hyD]
          repeat refine⟨DrawT.mk (by kernel_rfl),?_⟩
          refine CallT.p0 ((p_l2Has ns nm (by omega))) (by first | rfl | (simp;done)|(simp[h,n1,n2,S1_n,S1_gl,S1_md,S1_rd,u_S1,c0,S2_n,S2_gl,S2_md,S2_rd,u_S2,m1,m2,m3,m4,w1,w2,S3_n,S3_gl,S3_md,S3_rd,u_S3,w_S3,h8,h0,h1,h4,h6,hn,hg,hmd,c2,hrd,hBu,hBw,w3,w4,S4_n,S4_gl,S4_md,S4_rd,u_S4,w_S4,z1,z2,z3,t1,t2,t3,hyD];done)) (by first | rfl | (simp;done)|(simp;rfl)|(simp[h,n1,n2,S1_n,S1_gl,S1_md,S1_rd,u_S1,c0,S2_n,S2_gl,S2_md,S2_rd,u_S2,m1,m2,m3,m4,w1,w2,S3_n,S3_gl,S3_md,S3_rd,u_S3,w_S3,h8,h0,h1,h4,h6,hn,hg,hmd,c2,hrd,hBu,hBw,w3,w4,S4_n,S4_gl,S4_md,S4_rd,u_S4,w_S4,z1,z2,z3,t1,t2,t3,hyD];done)) ?_
          simp[h,n1,n2,S1_n,S1_gl,S1_md,S1_rd,u_S1,c0,S2_n,S2_gl,S2_md,S2_rd,u_S2,m1,m2,m3,m4,w1,w2,S3_n,S3_gl,S3_md,S3_rd,u_S3,w_S3,h8,h0,h1,h4,h6,hn,hg,hmd,c2,hrd,hBu,hBw,w3,w4,S4_n,S4_gl,S4_md,S4_rd,u_S4,w_S4,z1,z2,z3,t1,t2,t3,hyD]
          refine BrT.mk (fun cm=>?_) (fun cm=>?_)
          · simp[h,n1,n2,S1_n,S1_gl,S1_md,S1_rd,u_S1,c0,S2_n,S2_gl,S2_md,S2_rd,u_S2,m1,m2,m3,m4,w1,w2,S3_n,S3_gl,S3_md,S3_rd,u_S3,w_S3,h8,h0,h1,h4,h6,hn,hg,hmd,c2,hrd,hBu,hBw,w3,w4,S4_n,S4_gl,S4_md,S4_rd,u_S4,w_S4,z1,z2,z3,t1,t2,t3,hyD,cm]
            have hT4:∀ i,i<S.nx→S4.T i=S.T i:=fun i hi=>hG4.T i (by first | omega | (simp;done)|(simp;omega))
            refine⟨n',qq+1,rfl,X,Y,⟨rfl,rfl⟩,vl,hA.mono (by simp;omega) hT4,ns,hA1.mono (by simp;omega) hT4,hSm,hns,by omega,by omega,by omega,S4_o,S4_t,hXN,hYN,by omega,rfl⟩
          · simp[h,n1,n2,S1_n,S1_gl,S1_md,S1_rd,u_S1,c0,S2_n,S2_gl,S2_md,S2_rd,u_S2,m1,m2,m3,m4,w1,w2,S3_n,S3_gl,S3_md,S3_rd,u_S3,w_S3,h8,h0,h1,h4,h6,hn,hg,hmd,c2,hrd,hBu,hBw,w3,w4,S4_n,S4_gl,S4_md,S4_rd,u_S4,w_S4,z1,z2,z3,t1,t2,t3,hyD,cm]
            have hT4:∀ i,i<S.nx→S4.T i=S.T i:=fun i hi=>hG4.T i (by first | omega | (simp;done)|(simp;omega))
            refine OpT_addD (e:=9) (by_:=16) (by kernel_rfl) hA1 (by simp) rfl (by unfold appBound;omega) (fun i hi=>hG4.T i (by first | omega | (simp;done)|(simp;omega))) (by first | omega | (simp;done)|(simp;omega)) (by first | omega | (simp;done)|(simp;omega)) (by simp[h,n1,n2,S1_n,S1_gl,S1_md,S1_rd,u_S1,c0,S2_n,S2_gl,S2_md,S2_rd,u_S2,m1,m2,m3,m4,w1,w2,S3_n,S3_gl,S3_md,S3_rd,u_S3,w_S3,h8,h0,h1,h4,h6,hn,hg,hmd,c2,hrd,hBu,hBw,w3,w4,S4_n,S4_gl,S4_md,S4_rd,u_S4,w_S4,z1,z2,z3,t1,t2,t3,hyD,cm]) (fun Y9 S9 E9 hE9 hA9 hB9 hT9 hX9 hnx9 hn9 hg9 hm9=>?_)
            rw[hE9]
            have S9_B:∀ y,S9.B y=S4.B y:=fun y=>congrFun hB9 y
            obtain⟨v1,v2,v3⟩:=hA9.one
            simp at hnx9
            simp[h,n1,n2,S1_n,S1_gl,S1_md,S1_rd,u_S1,c0,S2_n,S2_gl,S2_md,S2_rd,u_S2,m1,m2,m3,m4,w1,w2,S3_n,S3_gl,S3_md,S3_rd,u_S3,w_S3,h8,h0,h1,h4,h6,hn,hg,hmd,c2,hrd,hBu,hBw,w3,w4,S4_n,S4_gl,S4_md,S4_rd,u_S4,w_S4,z1,z2,z3,t1,t2,t3,hyD,cm] at hn9 hg9 hm9
            simp[h,n1,n2,S1_n,S1_gl,S1_md,S1_rd,u_S1,c0,S2_n,S2_gl,S2_md,S2_rd,u_S2,m1,m2,m3,m4,w1,w2,S3_n,S3_gl,S3_md,S3_rd,u_S3,w_S3,h8,h0,h1,h4,h6,hn,hg,hmd,c2,hrd,hBu,hBw,w3,w4,S4_n,S4_gl,S4_md,S4_rd,u_S4,w_S4,z1,z2,z3,t1,t2,t3,hyD,cm,S9_B,v1,v2,v3,hn9,hg9,hm9]
            have S9_o:∀ y,y<N→y≠R→S9.B y=Sr.B y:=fun y k1 k2=>(S9_B y).trans (S4_o y k1 k2)
            have S9_t:∀ y,y<N→S9.T y=Sr.T y:=fun y k1=>(hT9 y (by omega) (fun o cs m e=>by have:=hYN _ _ _ _ e;omega)).trans (S4_t y k1)
            have hA9':AccD 5 S9 X (valsCells vl) vl.length:=(hA.mono (S':=S4) (by omega) hT4).move (hA1.mono (S':=S4) (by omega) hT4) (by decide) (by omega) (fun y k1 k2=>hT9 y (by omega) k2)
            refine⟨DrawT.mk (by kernel_rfl),?_⟩
            obtain⟨r5,S5,hL5,v,hv,hvs,q5,hG5,hq5⟩:=ih e (by omega) ((S9.set w [SV.d (dI 5),SV.d (dI 0),SV.d (dS ⟨#[]⟩),X,Y9]).adv 10) R (qq+1) (by first | omega | (simp;omega)) (by simp[h,n1,n2,S1_n,S1_gl,S1_md,S1_rd,u_S1,c0,S2_n,S2_gl,S2_md,S2_rd,u_S2,m1,m2,m3,m4,w1,w2,S3_n,S3_gl,S3_md,S3_rd,u_S3,w_S3,h8,h0,h1,h4,h6,hn,hg,hmd,c2,hrd,hBu,hBw,w3,w4,S4_n,S4_gl,S4_md,S4_rd,u_S4,w_S4,z1,z2,z3,t1,t2,t3,hyD,cm,S9_B,v1,v2,v3,hn9,hg9,hm9]) (by omega) (by omega)
            have S5_n:=hG5.n
            try simp[h,n1,n2,S1_n,S1_gl,S1_md,S1_rd,u_S1,c0,S2_n,S2_gl,S2_md,S2_rd,u_S2,m1,m2,m3,m4,w1,w2,S3_n,S3_gl,S3_md,S3_rd,u_S3,w_S3,h8,h0,h1,h4,h6,hn,hg,hmd,c2,hrd,hBu,hBw,w3,w4,S4_n,S4_gl,S4_md,S4_rd,u_S4,w_S4,z1,z2,z3,t1,t2,t3,hyD,cm,S9_B,v1,v2,v3,hn9,hg9,hm9] at S5_n
            have S5_gl:=hG5.gl
            try simp[h,n1,n2,S1_n,S1_gl,S1_md,S1_rd,u_S1,c0,S2_n,S2_gl,S2_md,S2_rd,u_S2,m1,m2,m3,m4,w1,w2,S3_n,S3_gl,S3_md,S3_rd,u_S3,w_S3,h8,h0,h1,h4,h6,hn,hg,hmd,c2,hrd,hBu,hBw,w3,w4,S4_n,S4_gl,S4_md,S4_rd,u_S4,w_S4,z1,z2,z3,t1,t2,t3,hyD,cm,S9_B,v1,v2,v3,hn9,hg9,hm9,S5_n] at S5_gl
            have S5_md:=hG5.md
            try simp[h,n1,n2,S1_n,S1_gl,S1_md,S1_rd,u_S1,c0,S2_n,S2_gl,S2_md,S2_rd,u_S2,m1,m2,m3,m4,w1,w2,S3_n,S3_gl,S3_md,S3_rd,u_S3,w_S3,h8,h0,h1,h4,h6,hn,hg,hmd,c2,hrd,hBu,hBw,w3,w4,S4_n,S4_gl,S4_md,S4_rd,u_S4,w_S4,z1,z2,z3,t1,t2,t3,hyD,cm,S9_B,v1,v2,v3,hn9,hg9,hm9,S5_n,S5_gl] at S5_md
            have S5_nx:=hG5.nx
            try simp[h,n1,n2,S1_n,S1_gl,S1_md,S1_rd,u_S1,c0,S2_n,S2_gl,S2_md,S2_rd,u_S2,m1,m2,m3,m4,w1,w2,S3_n,S3_gl,S3_md,S3_rd,u_S3,w_S3,h8,h0,h1,h4,h6,hn,hg,hmd,c2,hrd,hBu,hBw,w3,w4,S4_n,S4_gl,S4_md,S4_rd,u_S4,w_S4,z1,z2,z3,t1,t2,t3,hyD,cm,S9_B,v1,v2,v3,hn9,hg9,hm9,S5_n,S5_gl,S5_md] at S5_nx
            have S5_rd:=hG5.rd
            have u_S5:=hG5.old u (by first | omega | (simp;omega)) (by omega)
            try simp[h,n1,n2,S1_n,S1_gl,S1_md,S1_rd,u_S1,c0,S2_n,S2_gl,S2_md,S2_rd,u_S2,m1,m2,m3,m4,w1,w2,S3_n,S3_gl,S3_md,S3_rd,u_S3,w_S3,h8,h0,h1,h4,h6,hn,hg,hmd,c2,hrd,hBu,hBw,w3,w4,S4_n,S4_gl,S4_md,S4_rd,u_S4,w_S4,z1,z2,z3,t1,t2,t3,hyD,cm,S9_B,v1,v2,v3,hn9,hg9,hm9,S5_n,S5_gl,S5_md,S5_rd] at u_S5
            have w_S5:=hG5.old w (by first | omega | (simp;omega)) (by omega)
            try simp[h,n1,n2,S1_n,S1_gl,S1_md,S1_rd,u_S1,c0,S2_n,S2_gl,S2_md,S2_rd,u_S2,m1,m2,m3,m4,w1,w2,S3_n,S3_gl,S3_md,S3_rd,u_S3,w_S3,h8,h0,h1,h4,h6,hn,hg,hmd,c2,hrd,hBu,hBw,w3,w4,S4_n,S4_gl,S4_md,S4_rd,u_S4,w_S4,z1,z2,z3,t1,t2,t3,hyD,cm,S9_B,v1,v2,v3,hn9,hg9,hm9,S5_n,S5_gl,S5_md,S5_rd,u_S5] at w_S5
            have S5_o:∀ y,y<N→y≠R→S5.B y=Sr.B y:=fun y k1 k2=>by
              have a1:=hG5.old y (by first | omega | (simp;omega)) k2
              have y1:¬ y=u:=by omega
              have y2:¬ y=w:=by omega
              try simp[y1,y2] at a1
              exact a1.trans (S9_o y k1 k2)
            have S5_t:∀ y,y<N→S5.T y=Sr.T y:=fun y k1=>by
              have a1:=hG5.T y (by first | omega | (simp;omega))
              try simp at a1
              exact a1.trans (S9_t y k1)
            refine CallT.calm [((1,6),5)] (by kernel_rfl) (by kernel_rfl) hL5 ?_ ?_
            · simp[h,n1,n2,S1_n,S1_gl,S1_md,S1_rd,u_S1,c0,S2_n,S2_gl,S2_md,S2_rd,u_S2,m1,m2,m3,m4,w1,w2,S3_n,S3_gl,S3_md,S3_rd,u_S3,w_S3,h8,h0,h1,h4,h6,hn,hg,hmd,c2,hrd,hBu,hBw,w3,w4,S4_n,S4_gl,S4_md,S4_rd,u_S4,w_S4,z1,z2,z3,t1,t2,t3,hyD,cm,S9_B,v1,v2,v3,hn9,hg9,hm9,S5_n,S5_gl,S5_md,S5_rd,u_S5,w_S5,Eh.e,refOf]
            obtain⟨hX5,hY5⟩:=hv
            obtain⟨x1,x2,x3⟩:=hX5.one
            obtain⟨y1,y2,y3⟩:=hY5.one
            have hxD:=hX5.toD
            have hyD5:=hY5.toD
            simp[h,n1,n2,S1_n,S1_gl,S1_md,S1_rd,u_S1,c0,S2_n,S2_gl,S2_md,S2_rd,u_S2,m1,m2,m3,m4,w1,w2,S3_n,S3_gl,S3_md,S3_rd,u_S3,w_S3,h8,h0,h1,h4,h6,hn,hg,hmd,c2,hrd,hBu,hBw,w3,w4,S4_n,S4_gl,S4_md,S4_rd,u_S4,w_S4,z1,z2,z3,t1,t2,t3,hyD,cm,S9_B,v1,v2,v3,hn9,hg9,hm9,S5_n,S5_gl,S5_md,S5_rd,u_S5,w_S5,x1,x2,x3,y1,y2,y3,hxD,hyD5]
            rename_i k5 m5 s5 l5 ns5 X5 Y5
            refine OpT_addD (e:=36) (by_:=80) (by kernel_rfl) hA9' (valsCells_len _) rfl (by unfold appBound;omega) (fun i hi=>hG5.T i (by simp;omega)) (by omega) (by omega) S5_md (fun X8 S8 E8 hE8 hA8 hB8 hT8 hX8 hnx8 hn8 hg8 hm8=>?_)
            rw[hE8]
            have S8_B:∀ y,S8.B y=S5.B y:=fun y=>congrFun hB8 y
            obtain⟨o1,o2,o3⟩:=hA8.one
            rw[S5_n] at hn8
            rw[S5_gl] at hg8
            rw[S5_md] at hm8
            simp[h,n1,n2,S1_n,S1_gl,S1_md,S1_rd,u_S1,c0,S2_n,S2_gl,S2_md,S2_rd,u_S2,m1,m2,m3,m4,w1,w2,S3_n,S3_gl,S3_md,S3_rd,u_S3,w_S3,h8,h0,h1,h4,h6,hn,hg,hmd,c2,hrd,hBu,hBw,w3,w4,S4_n,S4_gl,S4_md,S4_rd,u_S4,w_S4,z1,z2,z3,t1,t2,t3,hyD,cm,S9_B,v1,v2,v3,hn9,hg9,hm9,S5_n,S5_gl,S5_md,S5_rd,u_S5,w_S5,x1,x2,x3,y1,y2,y3,hxD,hyD5,S8_B,o1,o2,o3,hn8,hg8,hm8]
            have e9:valsCells (vl++[Val.mk k5 m5 s5 l5 ns5])=valsCells vl++[dI k5,dI m5,dS s5, .ps (valsCells l5) l5.length, .ps (ns5.map dS) ns5.length]:=by
              rw[valsCells_row,valsCells_row];simp[Val.cells]
            have hT5:∀ i,i<S9.nx→S5.T i=S9.T i:=fun i hi=>hG5.T i (by first | omega | (simp;done)|(simp;omega))
            have hY8:AccD 1 S8 Y9 (ns.map dS++[dS nm]) (ns.length+1):=hA9.move hA9' (by decide) (by omega) (fun y k1 k2=>(hT8 y (by omega) k2).trans (hT5 y k1))
            refine⟨n',q5,rfl,X8,Y9,⟨rfl,rfl⟩,vl++[.mk k5 m5 s5 l5 ns5],?_,ns++[nm],?_,?_,?_,by simp;omega,by simp;omega,by omega,?_,?_,?_,?_,by omega,rfl⟩
            · rw[e9,List.length_append]
              exact hA8.mono (by simp) (fun _ _=>rfl)
            · rw[List.map_append,List.length_append]
              exact hY8.mono (by simp) (fun _ _=>rfl)
            · intro v hv
              rcases List.mem_append.1 hv with h | h
              · exact hSm v h
              · rw[List.mem_singleton] at h;rw[h];exact hvs
            · intro v hv
              rcases List.mem_append.1 hv with h | h
              · exact hns v h
              · rw[List.mem_singleton] at h;rw[h];exact hnz
            · intro y k1 k2
              rw[if_neg (by omega)]
              exact S5_o y k1 k2
            · intro y k1
              rw[hT8 y (by omega) (fun o cs m e=>by have:=hXN _ _ _ _ e;omega)]
              exact S5_t y k1
            · intro i o cs m e
              rcases hX8 i o cs m e with h | ⟨o',cs',m',h⟩
              · omega
              · exact hXN _ _ _ _ h
            · intro i o cs m e
              rcases hX9 i o cs m e with h | ⟨o',cs',m',h⟩
              · omega
              · exact hYN _ _ _ _ h
        · have hn0:n=0:=by omega
          subst hn0
          obtain⟨z1,z2,z3⟩:=hA.one
          obtain⟨t1,t2,t3⟩:=hA1.one
          simp[h,n1,n2,S1_n,S1_gl,S1_md,S1_rd,u_S1,c0,S2_n,S2_gl,S2_md,S2_rd,u_S2,m1,m2,m3,m4,w1,w2,S3_n,S3_gl,S3_md,S3_rd,u_S3,w_S3,h8,h0,h1,h4,h6,hn,hg,hmd,c2,hrd,hBu,hBw,z1,z2,z3,t1,t2,t3]
          refine⟨.mk 5 0 ⟨#[]⟩ vl ns, .mk (hA.mono (by simp) (fun _ _=>rfl)) (hA1.mono (by simp) (fun _ _=>rfl)), .mk (by decide) (by omega) (fun s hs=>by have:=hns s hs;omega) (by omega) hSm,qq,⟨rfl,rfl,rfl,by simp;omega,by simp[h,n1,n2,S1_n,S1_gl,S1_md,S1_rd,u_S1,c0,S2_n,S2_gl,S2_md,S2_rd,u_S2,m1,m2,m3,m4,w1,w2,S3_n,S3_gl,S3_md,S3_rd,u_S3,w_S3,h8,h0,h1,h4,h6,hn,hg,hmd,c2,hrd,hBu,hBw,z1,z2,z3,t1,t2,t3],?_,?_, .nil⟩,by omega⟩
          · intro y k1 k2
            have z1:¬ y=u:=by omega
            simp[z1]
            exact (hrO2 y (by omega) k2).trans (by rw[hSr])
          · intro y k1
            exact (hrT2 y (by omega)).trans (by rw[hSr])
end Go.Proofs.YtlmpjblmmpddeaaGreat
namespace Go.Proofs.YtlmpjblmmpddeaaGreat
open Go.Sh
theorem mapO_app {α β:Type}{f:α→Option β}:∀ {a b:List α}{x y:List β},mapO f a=some x→mapO f b=some y→mapO f (a++b)=some (x++y)
  | [],b,x,y,h,h'=>by cases h;exact h'
  | p::a,b,x,y,h,h'=>by
    rw[mapO_cons] at h
    cases hp:f p with
    | none=>rw[hp] at h;cases h
    | some q =>
      cases ha:mapO f a with
      | none=>rw[hp,ha] at h;cases h
      | some z =>
        rw[hp,ha] at h
        cases h
        rw[List.cons_append,mapO_cons,hp,mapO_app ha h']
        rfl
theorem depL_app:∀ a b:List Sk,depL (a++b)=max (depL a) (depL b)
  | [],b=>by simp[depL]
  | x::r,b=>by simp only[List.cons_append,depL,depL_app r b];omega
structure LstF (S:St) (lo hi:Nat) (r:SV) (L:List Def):Prop where
  of:∃ b cs,r=.sk b L.length 4∧lo≤b∧b<hi∧S.B b=some cs∧∀ B':Nat→Option (List SV),(∀ x,lo≤x→x<hi→x≠b→B' x=S.B x)→mapO (frz B' 12) cs=some (defsCells L)
theorem LstF.keep {S S':St}{lo hi lo' hi':Nat}{r:SV}{L:List Def} (h:LstF S lo hi r L) (hB:∀ x,lo≤x→x<hi→S'.B x=S.B x) (h1:lo'≤lo) (h2:hi≤hi'):LstF S' lo' hi' r L:=by
  obtain⟨b,cs,e1,e2,e3,e4,e5⟩:=h.of
  exact⟨b,cs,e1,by omega,by omega,(hB b e2 e3).trans e4,fun B' hB'=>e5 B' fun x k1 k2 k3=>(hB' x (by omega) (by omega) k3).trans (hB x k1 k2)⟩
theorem LstF.frz {S:St}{lo hi:Nat}{r:SV}{L:List Def} (h:LstF S lo hi r L):mapO (Go.Sh.frz S.B 13) [r]=some [defsD L]:=by
  obtain⟨b,cs,rfl,e2,e3,e4,e5⟩:=h.of
  have h5:=e5 S.B fun _ _ _ _=>rfl
  have:Go.Sh.frz S.B 13 (.sk b L.length 4)=some (defsD L):=by
    rw[Go.Sh.frz,e4]
    show Option.map (fun ds=>D.ps ds L.length) (mapO (Go.Sh.frz S.B 12) cs)=_
    rw[h5];rfl
  simp[this]
theorem LstF.one {S:St}{lo hi:Nat}{r:SV}{L:List Def} (h:LstF S lo hi r L):r.one=true∧r.cells=[r]∧r.cell=true:=by
  obtain⟨b,cs,rfl,_⟩:=h.of
  exact⟨rfl,rfl,rfl⟩
structure LstG (S:St) (lo hi:Nat) (r:SV) (L:List Def):Prop where
  of:∃ b cs M,r=.sk b L.length 4∧lo≤b∧b<hi∧S.B b=some cs∧∀ B':Nat→Option (List SV),(∀ x,lo≤x→x<hi→x≠b→B' x=S.B x)→mapO (Go.Sh.frz B' 12) cs=some (defsCells L++M)
theorem LstF.g {S:St}{lo hi:Nat}{r:SV}{L:List Def} (h:LstF S lo hi r L):LstG S lo hi r L:=by
  obtain⟨b,cs,e1,e2,e3,e4,e5⟩:=h.of
  exact⟨b,cs,[],e1,e2,e3,e4,fun B' hB'=>by rw[List.append_nil];exact e5 B' hB'⟩
theorem LstG.keep {S S':St}{lo hi lo' hi':Nat}{r:SV}{L:List Def} (h:LstG S lo hi r L) (hB:∀ x,lo≤x→x<hi→S'.B x=S.B x) (h1:lo'≤lo) (h2:hi≤hi'):LstG S' lo' hi' r L:=by
  obtain⟨b,cs,M,e1,e2,e3,e4,e5⟩:=h.of
  exact⟨b,cs,M,e1,by omega,by omega,(hB b e2 e3).trans e4,fun B' hB'=>e5 B' fun x k1 k2 k3=>(hB' x (by omega) (by omega) k3).trans (hB x k1 k2)⟩
theorem LstG.frz {S:St}{lo hi:Nat}{r:SV}{L:List Def} (h:LstG S lo hi r L):∃ M,mapO (Go.Sh.frz S.B 13) [r]=some [.ps (defsCells L++M) L.length]:=by
  obtain⟨b,cs,M,rfl,e2,e3,e4,e5⟩:=h.of
  have h5:=e5 S.B fun _ _ _ _=>rfl
  refine⟨M,?_⟩
  have:Go.Sh.frz S.B 13 (.sk b L.length 4)=some (.ps (defsCells L++M) L.length):=by
    rw[Go.Sh.frz,e4]
    show Option.map (fun ds=>D.ps ds L.length) (mapO (Go.Sh.frz S.B 12) cs)=_
    rw[h5];rfl
  simp[this]
theorem PV.cut {m:Nat→Nat}{w:World}{ds M:List D}{n:Nat}{v:Value} (h:PV m w (.ps (ds++M) n) v):PV m w (.ps ds n) v:=by
  generalize e:ds++M=cs at h
  cases h with
  | nil=>rw[(List.append_eq_nil_iff.1 e).1];exact .nil
  | pz h=>rw[(List.append_eq_nil_iff.1 e).1];exact .pz h
  | ps us hn hc hk hv =>
    subst e
    refine .ps us hn (fun j hj=>hc j (by simp;omega)) (fun j hj=>?_) (fun j hj=>?_)
    · have:=hk j (by simp;omega)
      rwa [List.getElem_append_left hj] at this
    · have:=hv j (by simp;omega)
      rwa [List.getElem_append_left hj] at this
theorem PCall.cut {P:Program}{gl:Nat→Option D}{f:FuncId}{ds M:List D}{n:Nat}{al:List D}{r:D} (h:PCall P gl f (.ps ds n::al) r):PCall P gl f (.ps (ds++M) n::al) r :=
  ⟨h.1,fun m w vals h1 h2 h3 h4=>h.2 m w vals h1 h2 h3 fun j hj hj'=>by
    cases j with
    | zero=>exact PV.cut (h4 0 (by simp) hj')
    | succ j=>exact h4 (j+1) hj hj'⟩
theorem lst_of {S:St}{lo hi b:Nat}{A Z:List Ld}{c:List SV}{LA LZ:List Def}{d:Def} (hb:lo≤b) (hb2:b<hi) (hB:S.B b=some (svs A++(c++svs Z))) (hA:shs A=rowsZ Def.sz LA) (hZ:shs Z=rowsZ Def.sz LZ) (dA:depL (shs A)<12) (dZ:depL (shs Z)<12)
    (hat:∀ p∈varsL (A++Z),lo≤p.1∧p.1<hi∧p.1≠b∧S.B p.1=some p.2) (hc:∀ B':Nat→Option (List SV),(∀ x,lo≤x→x<hi→x≠b→B' x=S.B x)→mapO (frz B' 12) c=some d.cells) {n:Nat} (hn:n=(LA++d::LZ).length) :
    LstF S lo hi (.sk b n 4) (LA++d::LZ):=by
  subst hn
  refine⟨b,_,rfl,hb,hb2,hB,fun B' hB'=>?_⟩
  have hv:∀ p∈varsL (A++Z),B' p.1=some p.2:=fun p hp=>by
    obtain⟨h1,h2,h3,h4⟩:=hat p hp
    rw[hB' _ h1 h2 h3,h4]
  have h1:=(frz_lds (B:=B') A 12 (fun p hp=>hv p (by rw[varsL_app];exact List.mem_append_left _ hp)) dA).1
  have h2:=(frz_lds (B:=B') Z 12 (fun p hp=>hv p (by rw[varsL_app];exact List.mem_append_right _ hp)) dZ).1
  have e:defsCells (LA++d::LZ)=dataL (shs A)++(d.cells++dataL (shs Z)):=by
    rw[hA,hZ,rowsZ_data def_szdata,rowsZ_data def_szdata]
    simp[defsCells]
  rw[e]
  exact mapO_app h1 (mapO_app (hc B' hB') h2)
theorem lst_two {S:St}{lo hi b:Nat}{A Z:List Ld}{LA LZ:List Def} (hb:lo≤b) (hb2:b<hi) (hB:S.B b=some (svs A++svs Z)) (hA:shs A=rowsZ Def.sz LA) (hZ:shs Z=rowsZ Def.sz LZ) (dA:depL (shs A)<12) (dZ:depL (shs Z)<12)
    (hat:∀ p∈varsL (A++Z),lo≤p.1∧p.1<hi∧p.1≠b∧S.B p.1=some p.2) {n:Nat} (hn:n=(LA++LZ).length):LstF S lo hi (.sk b n 4) (LA++LZ):=by
  subst hn
  refine⟨b,_,rfl,hb,hb2,hB,fun B' hB'=>?_⟩
  have hv:∀ p∈varsL (A++Z),B' p.1=some p.2:=fun p hp=>by
    obtain⟨h1,h2,h3,h4⟩:=hat p hp
    rw[hB' _ h1 h2 h3,h4]
  have h1:=(frz_lds (B:=B') A 12 (fun p hp=>hv p (by rw[varsL_app];exact List.mem_append_left _ hp)) dA).1
  have h2:=(frz_lds (B:=B') Z 12 (fun p hp=>hv p (by rw[varsL_app];exact List.mem_append_right _ hp)) dZ).1
  have e:defsCells (LA++LZ)=dataL (shs A)++dataL (shs Z):=by
    rw[hA,hZ,rowsZ_data def_szdata,rowsZ_data def_szdata]
    simp[defsCells]
  rw[e]
  exact mapO_app h1 h2
theorem split_shs:∀ {X Y:List Sk}{cs:List Ld},shs cs=X++Y→∃ a b,cs=a++b∧shs a=X∧shs b=Y
  | [],Y,cs,h=>⟨[],cs,rfl,rfl,h⟩
  | x::X,Y,[],h=>by simp[shs] at h
  | x::X,Y,c::cs,h=>by
    simp only[shs,List.cons_append,List.cons.injEq] at h
    obtain⟨a,b,rfl,h1,h2⟩:=split_shs h.2
    exact⟨c::a,b,rfl,by simp[shs,h.1,h1],h2⟩
theorem rows_split {α:Type} (f:α→List Sk) (l:List α) {i:Nat} (h:i<l.length):rowsZ f l=rowsZ f (l.take i)++(f l[i]++rowsZ f (l.drop (i+1))):=by
  have e:l=l.take i++(l[i]::l.drop (i+1)):=by rw[← List.drop_eq_getElem_cons h,List.take_append_drop]
  conv=>lhs;rw[e]
  simp only[rowsZ,List.flatMap_append,List.flatMap_cons]
theorem LstF.add {S S':St}{lo hi b n id hi':Nat}{L:List Def}{e:Def}{cs:List SV} (h:LstF S lo hi (.sk b n 4) L) (hb:S.B b=some cs) (hB:S'.B id=some (cs++e.cells.map .d)) (ho:∀ x,x≠b→x≠id→x<hi→S'.B x=S.B x) (h1:hi≤id) (h2:id<hi'):LstF S' lo hi' (.sk id (n+1) 4) (L++[e]):=by
  obtain⟨b',cs',e1,e2,e3,e4,e5⟩:=h.of
  cases e1
  rw[hb] at e4
  cases e4
  refine⟨id,_,by simp,by omega,h2,hB,fun B' hB'=>?_⟩
  have e6:defsCells (L++[e])=defsCells L++e.cells:=by simp[defsCells]
  rw[e6]
  refine mapO_app (e5 B' fun x k1 k2 k3=>?_) (mapO_d 11 _)
  rw[hB' x k1 (by omega) (by omega),ho x k3 (by omega) k2]
theorem drop_add {α:Type}{A:List α}{n:Nat} (h:A.length=n) (j:Nat) (Y:List α):(A++Y).drop (n+j)=Y.drop j:=by
  subst h
  simp[List.drop_append]
theorem take_add {α:Type}{A:List α}{n:Nat} (h:A.length=n) (j:Nat) (Y:List α):(A++Y).take (n+j)=A++Y.take j:=by
  subst h
  rw[List.take_append,List.take_of_length_le (by omega)]
  simp
theorem nodup_mid {X Y:List Nat}{b:Nat} (h:(X++b::Y).Nodup):∀ x∈X++Y,x≠b:=by
  have h1:=(List.perm_middle.nodup_iff.1 h)
  rw[List.nodup_cons] at h1
  exact fun x hx e=>h1.1 (e▸hx)
theorem vars_mid {A Z:List Ld}{n0 k0:Value}{z:Option Nat}{b2 m:Nat}{fc:List Ld}{w:Ld} (h:((varsL (A++([.d n0, .d k0, .row z b2 m fc,w]++Z))).map (·.1)).Nodup):(∀ p∈varsL (A++Z),p.1≠b2)∧(∀ p∈varsL fc,p.1≠b2)∧∀ p∈w.vars,p.1≠b2:=by
  have e:(varsL (A++([.d n0, .d k0, .row z b2 m fc,w]++Z))).map (·.1)=(varsL A).map (·.1)++b2::((varsL fc).map (·.1)++(w.vars.map (·.1)++(varsL Z).map (·.1))):=by
    rw[varsL_app,varsL_app]
    simp[varsL,Ld.vars]
  rw[e] at h
  have h1:=nodup_mid h
  refine⟨fun p hp=>h1 _ ?_,fun p hp=>h1 _ ?_,fun p hp=>h1 _ ?_⟩
  · rw[varsL_app] at hp
    rcases List.mem_append.1 hp with hp | hp
    · exact List.mem_append_left _ (List.mem_map_of_mem hp)
    · exact List.mem_append_right _ (List.mem_append_right _ (List.mem_append_right _ (List.mem_map_of_mem hp)))
  · exact List.mem_append_right _ (List.mem_append_left _ (List.mem_map_of_mem hp))
  · exact List.mem_append_right _ (List.mem_append_right _ (List.mem_append_left _ (List.mem_map_of_mem hp)))
theorem sh_d {x:Ld}{v:Value} (h:x.sh=.d v):x=.d v:=by
  cases x<;>simp[Ld.sh] at h
  rw[h]
theorem four_of {l:List Ld} (h:l.length=4):∃ a b c d,l=[a,b,c,d]:=by
  match l,h with
  | [a,b,c,d],_=>exact⟨a,b,c,d,rfl⟩
theorem mapO4 {α β:Type}{f:α→Option β}{a b c d:α}{x y z w:β} (h1:f a=some x) (h2:f b=some y) (h3:f c=some z) (h4:f d=some w):mapO f [a,b,c,d]=some [x,y,z,w]:=by
  simp[mapO,h1,h2,h3,h4]
theorem defs_split {cs:List Ld}{L:List Def}{k:Nat} (h:shs cs=rowsZ Def.sz L) (hk:k<L.length):∃ A f w Z LA d LZ,cs=A++([.d (.string d.name), .d (.int .i64 d.kind),f,w]++Z)∧L=LA++d::LZ∧LA.length=k∧A.length=k*4∧shs A=rowsZ Def.sz LA∧shs Z=rowsZ Def.sz LZ∧f.sh=skZ 5 d.flds.length (rowsZ Fld.sz d.flds)∧w.sh=skT d.words:=by
  rw[rows_split Def.sz L hk] at h
  obtain⟨A,W,rfl,hA,hW⟩:=split_shs h
  obtain⟨D4,Z,rfl,hD,hZ⟩:=split_shs hW
  obtain⟨n0,k0,f,w,rfl⟩:=four_of (by rw[← shs_len,hD];simp:D4.length=4)
  simp only[shs,Def.sz,List.cons.injEq,and_true] at hD
  obtain⟨h1,h2,h3,h4⟩:=hD
  have h1:=sh_d h1
  have h2:=sh_d h2
  subst h1
  subst h2
  refine⟨A,f,w,Z,L.take k,L[k],L.drop (k+1),rfl,?_,by simp;omega,?_,hA,hZ,h3,h4⟩
  · rw[← List.drop_eq_getElem_cons hk,List.take_append_drop]
  · rw[← shs_len,hA,rowsZ_len (fun x=>by simp:∀ x:Def,(Def.sz x).length=4)]
    simp;omega
theorem flds_split {cs:List Ld}{L:List Fld}{k:Nat} (h:shs cs=rowsZ Fld.sz L) (hk:k<L.length):∃ A a T Z LA d LZ,cs=A++([.d (.string d.name),a]++(T++Z))∧L=LA++d::LZ∧LA.length=k∧A.length=k*5∧shs A=rowsZ Fld.sz LA∧shs Z=rowsZ Fld.sz LZ∧a.sh=skZ 10 d.args.length (rowsZ Arg.sz d.args)∧shs T=d.ty.sz:=by
  rw[rows_split Fld.sz L hk] at h
  obtain⟨A,W,rfl,hA,hW⟩:=split_shs h
  obtain⟨D5,Z,rfl,hD,hZ⟩:=split_shs hW
  have hD2:shs D5=[.d (.string L[k].name),skZ 10 L[k].args.length (rowsZ Arg.sz L[k].args)]++L[k].ty.sz:=hD
  obtain⟨D2,T,rfl,hE,hT⟩:=split_shs hD2
  obtain⟨n0,a,rfl⟩:∃ a b,D2=[a,b]:=by
    have:D2.length=2:=by rw[← shs_len,hE];rfl
    match D2,this with
    | [a,b],_=>exact⟨a,b,rfl⟩
  simp only[shs,List.cons.injEq,and_true] at hE
  obtain⟨h1,h2⟩:=hE
  have h1:=sh_d h1
  subst h1
  refine⟨A,a,T,Z,L.take k,L[k],L.drop (k+1),by simp,?_,by simp;omega,?_,hA,hZ,h2,hT⟩
  · rw[← List.drop_eq_getElem_cons hk,List.take_append_drop]
  · rw[← shs_len,hA,rowsZ_len (fun x=>by simp:∀ x:Fld,(Fld.sz x).length=5)]
    simp;omega
end Go.Proofs.YtlmpjblmmpddeaaGreat
namespace Go.Proofs.YtlmpjblmmpddeaaGreat
open Go.Sh
variable {gl:Nat→Option D}
set_option maxHeartbeats 4000000 in
theorem p_dec1:PCall Tryz.prog gl 100 [dI 1] (dS ⟨#[49]⟩):=by
  refine PCall.by_ (md:=[]) Tryz.func100 rfl (by kernel_rfl) (n:=28) Tryz.ntmps100 (by simp) (by decide) rfl ?_
  simp
  rfl
set_option maxHeartbeats 4000000 in
theorem p_dec7:PCall Tryz.prog gl 100 [dI 7] (dS ⟨#[55]⟩):=by
  refine PCall.by_ (md:=[]) Tryz.func100 rfl (by kernel_rfl) (n:=28) Tryz.ntmps100 (by simp) (by decide) rfl ?_
  simp
  rfl
set_option maxHeartbeats 4000000 in
theorem p_dec8:PCall Tryz.prog gl 100 [dI 8] (dS ⟨#[56]⟩):=by
  refine PCall.by_ (md:=[]) Tryz.func100 rfl (by kernel_rfl) (n:=28) Tryz.ntmps100 (by simp) (by decide) rfl ?_
  simp
  rfl
set_option maxHeartbeats 4000000 in
theorem p_dec9:PCall Tryz.prog gl 100 [dI 9] (dS ⟨#[57]⟩):=by
  refine PCall.by_ (md:=[]) Tryz.func100 rfl (by kernel_rfl) (n:=28) Tryz.ntmps100 (by simp) (by decide) rfl ?_
  simp
  rfl
set_option maxHeartbeats 4000000 in
theorem p_dec10:PCall Tryz.prog gl 100 [dI 10] (dS (⟨#[49]⟩++⟨#[48]⟩)):=by
  refine PCall.by_ (md:=[]) Tryz.func100 rfl (by kernel_rfl) (n:=28) Tryz.ntmps100 (by simp) (by decide) rfl ?_
  simp
  repeat refine⟨DrawT.mk (by kernel_rfl),?_⟩
  refine CallT.p0 ((p_dec1)) (by first | rfl | (simp;done)|(simp;done)) (by first | rfl | (simp;done)|(simp;rfl)|(simp;done)) ?_
  simp
  have e:strOfNums [IntKind.u8.wrap 48]=⟨#[48]⟩:=by decide +kernel
  rw[e,if_pos (by decide)]
  simp
theorem p_decs (n:Nat) (h7:7≤n) (h10:n≤10):∃ s:ByteArray,s.size≤2∧∀ gl,PCall Tryz.prog gl 100 [dI n] (dS s):=by
  rcases (by omega:n=7∨n=8∨n=9∨n=10) with rfl | rfl | rfl | rfl
  · exact⟨_,by decide,fun gl=>p_dec7⟩
  · exact⟨_,by decide,fun gl=>p_dec8⟩
  · exact⟨_,by decide,fun gl=>p_dec9⟩
  · exact⟨_,by decide,fun gl=>p_dec10⟩
abbrev nobodyS:ByteArray:=⟨#[78,111,98,111,100,121]⟩
def DefK (d:Def):Prop:=DefSm d∧d.name≠freshS∧d.name≠nobodyS
theorem schema_k:∀ d∈schemaL,DefK d:=fun d hd=>⟨schema_sm d hd,by
  have h:=List.all_eq_true.1 (by decide +kernel:schemaL.all (fun d=>decide (d.name≠freshS∧d.name≠nobodyS))=true) d hd
  simpa using h⟩
theorem schema_len:∀ d∈schemaL,d.flds.length≤8∧∀ f∈d.flds,f.args.length≤8:=fun d hd=>by
  have h:=List.all_eq_true.1 (by decide +kernel:schemaL.all (fun d=>decide (d.flds.length≤8)&&d.flds.all fun f=>decide (f.args.length≤8))=true) d hd
  simpa using h
theorem k_mid {LA LZ:List Def}{d d':Def} (h:∀ x∈LA++d::LZ,DefK x) (hd:DefK d'):∀ x∈LA++d'::LZ,DefK x:=by
  intro x hx
  rcases List.mem_append.1 hx with hx | hx
  · exact h x (List.mem_append_left _ hx)
  · rcases List.mem_cons.1 hx with rfl | hx
    · exact hd
    · exact h x (List.mem_append_right _ (List.mem_cons_of_mem _ hx))
set_option maxHeartbeats 32000000 in
theorem l_any (c:List UInt8) (hc:c.length≤2000) (S0:St) (R p:Nat) (hR:R<S0.nx) (h:S0.B R=some (rdP c p)) (hp:p≤800000) :
    ∃ r S',LCall Tryz.prog 44 [.op R 0] S0 r S'∧∃ L:List Def,LstG S' S0.nx S'.nx r L∧(∀ d∈L,DefK d)∧L.length≤20∧∃ q,Got S0 S' R (rdP c q) []∧q≤p+100:=by
  refine LCall.ex_ (md:=[1000121]) Tryz.func44 rfl (by kernel_rfl) (by kernel_rfl) (n:=181) Tryz.ntmps44 (by simp) (by decide) rfl ?_
  simp[h]
  refine CallT.x (l_schema _) rfl (fun r1 S1 h1=>?_)
  obtain⟨x0,rfl,hx,hG1⟩:=h1
  have hx:x0.sh=skZ 4 7 (rowsZ Def.sz schemaL):=hx
  rcases ld_z hx with ⟨_,h0⟩ | ⟨b,cs0,rfl,hcs,_⟩
  · exact absurd h0 (by decide)
  have hlen:schemaL.length=7:=by decide
  have S1_n:=hG1.n
  have S1_gl:=hG1.gl
  have S1_md:=hG1.md
  have S1_nx:=hG1.nx
  simp at S1_n S1_gl S1_md S1_nx
  have hN1:=hG1.new
  simp at hN1
  have S1_o:∀ y,y<S0.nx→S1.B y=S0.B y:=fun y k=>by have:=hG1.old y (by simp;omega);simpa using this
  have S1_t:∀ y,y<S0.nx→S1.T y=S0.T y:=fun y k=>by have:=hG1.T y (by simp;omega);simpa using this
  have R_S1:=S1_o R hR
  rw[h] at R_S1
  obtain⟨N,hN⟩:∃ N,S1.nx=N:=⟨_,rfl⟩
  obtain⟨Sr,hSr⟩:∃ Sr,S1=Sr:=⟨_,rfl⟩
  have hrO:∀ y,y<N→y≠R→S1.B y=Sr.B y:=fun y _ _=>by rw[hSr]
  have hrT:∀ y,y<N→S1.T y=Sr.T y:=fun y _=>by rw[hSr]
  have hbb:=hN1.has (b,svs cs0) (by simp[varsL,Ld.vars])
  have hbr:=hN1.rng (b,svs cs0) (by simp[varsL,Ld.vars])
  simp only at hbb hbr
  have n1:¬ R=b:=by omega
  have n2:¬ b=R:=by omega
  simp[h,S1_n,S1_gl,S1_md,R_S1,n1,n2,hbb]
  refine CallT.x (x_pick _ R c p 7 (by first | omega | (simp;omega)) (by simp[h,S1_n,S1_gl,S1_md,R_S1,n1,n2,hbb]) hc (by omega) (by omega) (by omega)) rfl (fun r2 S2 h2=>?_)
  obtain⟨q2,hG2⟩:=h2
  subst q2
  have hk:=pickK_lt c p 7 (by omega)
  generalize pickK c p 7=k at hk
  have S2_n:=hG2.n
  try simp[h,S1_n,S1_gl,S1_md,R_S1,n1,n2,hbb] at S2_n
  have S2_gl:=hG2.gl
  try simp[h,S1_n,S1_gl,S1_md,R_S1,n1,n2,hbb,S2_n] at S2_gl
  have S2_md:=hG2.md
  try simp[h,S1_n,S1_gl,S1_md,R_S1,n1,n2,hbb,S2_n,S2_gl] at S2_md
  have S2_nx:=hG2.nx
  try simp[h,S1_n,S1_gl,S1_md,R_S1,n1,n2,hbb,S2_n,S2_gl,S2_md] at S2_nx
  have S2_rd:=hG2.rd
  have b_S2:=hG2.old b (by first | omega | (simp;omega)) (by omega)
  try simp[h,S1_n,S1_gl,S1_md,R_S1,n1,n2,hbb,S2_n,S2_gl,S2_md,S2_rd] at b_S2
  have S2_o:∀ y,y<N→y≠R→S2.B y=Sr.B y:=fun y k1 k2=>by
    have a1:=hG2.old y (by first | omega | (simp;omega)) k2
    try simp[] at a1
    exact a1.trans (hrO y k1 k2)
  have S2_t:∀ y,y<N→S2.T y=Sr.T y:=fun y k1=>by
    have a1:=hG2.T y (by first | omega | (simp;omega))
    try simp at a1
    exact a1.trans (hrT y k1)
  simp[h,S1_n,S1_gl,S1_md,R_S1,n1,n2,hbb,S2_n,S2_gl,S2_md,S2_rd,b_S2,hk]
  refine⟨by omega,?_⟩
  obtain⟨A,f,w0,Z,LA,d,LZ,rfl,hL,hAk,hAl,hA,hZ,hf,hw⟩:=defs_split hcs (by rw[hlen];exact hk)
  have hdep:depL (rowsZ Def.sz schemaL)<9:=by decide +kernel
  rw[← hcs,shs_app,shs_app,depL_app,depL_app] at hdep
  simp only[shs,depL] at hdep
  have hAl2:(svs A).length=k*4:=by rw[svs_len];exact hAl
  have hK0:∀ x∈LA++d::LZ,DefK x:=by rw[← hL];exact schema_k
  have hKd:DefK d:=hK0 d (by simp)
  have hLd:=schema_len d (by rw[hL];simp)
  have hL7:LA.length+1+LZ.length=7:=by
    have:=congrArg List.length hL
    rw[hlen] at this
    simp at this
    omega
  have hnd:=hN1.nodup
  simp only[varsL,Ld.vars,List.append_nil,List.map_cons,List.nodup_cons] at hnd
  have hvb:∀ p∈varsL (A++([.d (.string d.name), .d (.int .i64 d.kind),f,w0]++Z)),p.1≠b∧S0.nx≤p.1∧p.1<N∧S1.B p.1=some p.2:=fun p hp=>by
    have h1:=hN1.has p (by simp only[varsL,Ld.vars,List.append_nil];exact List.mem_cons_of_mem _ hp)
    have h2:=hN1.rng p (by simp only[varsL,Ld.vars,List.append_nil];exact List.mem_cons_of_mem _ hp)
    exact⟨fun e=>hnd.1 (List.mem_map.2 ⟨p,hp,e⟩),by omega,by omega,h1⟩
  have hvAZ:∀ p∈varsL (A++Z),p∈varsL (A++([.d (.string d.name), .d (.int .i64 d.kind),f,w0]++Z)):=fun p hp=>by
    rw[varsL_app] at hp ⊢
    rcases List.mem_append.1 hp with hp | hp
    · exact List.mem_append_left _ hp
    · refine List.mem_append_right _ ?_
      rw[varsL_app]
      exact List.mem_append_right _ hp
  have hvf:∀ p∈f.vars,p∈varsL (A++([.d (.string d.name), .d (.int .i64 d.kind),f,w0]++Z)):=fun p hp=>by
    rw[varsL_app,varsL_app]
    simp[varsL,Ld.vars,hp]
  have hvw:∀ p∈w0.vars,p∈varsL (A++([.d (.string d.name), .d (.int .i64 d.kind),f,w0]++Z)):=fun p hp=>by
    rw[varsL_app,varsL_app]
    simp[varsL,Ld.vars,hp]
  have fin:∀ (S':St) (hi:Nat) (c:List SV) (d':Def),N≤hi→S'.B b=some (svs A++(c++svs Z))→(∀ p∈varsL (A++Z),S'.B p.1=S1.B p.1)→(∀ B':Nat→Option (List SV),(∀ x,S0.nx≤x→x<hi→x≠b→B' x=S'.B x)→mapO (frz B' 12) c=some d'.cells)→LstF S' S0.nx hi (.sk b 7 4) (LA++d'::LZ):=fun S' hi c d' h1 h2 h3 h4=>by
    refine lst_of (by omega) (by omega) h2 hA hZ (by omega) (by omega) (fun p hp=>?_) h4 (by simp;omega)
    obtain⟨a1,a2,a3,a4⟩:=hvb p (hvAZ p hp)
    exact⟨a2,by omega,a1,(h3 p hp).trans a4⟩
  have fzf:∀ B':Nat→Option (List SV),(∀ p∈f.vars,B' p.1=some p.2)→frz B' 12 f.sv=some (fldsD d.flds):=fun B' hB'=>by
    have h1:=(frz_ld f 12 hB' (by omega)).1
    rw[h1,hf,skZ_data (fun e=>by rw[List.eq_nil_of_length_eq_zero e];rfl),rowsZ_data fld_szdata];rfl
  have fzw:∀ B':Nat→Option (List SV),(∀ p∈w0.vars,B' p.1=some p.2)→frz B' 12 w0.sv=some (namesD d.words):=fun B' hB'=>by
    have h1:=(frz_ld w0 12 hB' (by omega)).1
    rw[h1,hw,skT_data]
  have fin2:∀ (S':St) (hi:Nat) (c:List SV) (d':Def),N≤hi→S'.B b=some (svs A++(c++svs Z))→(∀ y,y<N→y≠R→y≠b→S'.B y=S1.B y)→(∀ B':Nat→Option (List SV),(∀ x,S0.nx≤x→x<hi→x≠b→B' x=S'.B x)→mapO (frz B' 12) c=some d'.cells)→LstF S' S0.nx hi (.sk b 7 4) (LA++d'::LZ):=fun S' hi c d' h1 h2 h3 h4=>fin S' hi c d' h1 h2 (fun p hp=>by
    obtain⟨a1,a2,a3,a4⟩:=hvb p (hvAZ p hp)
    exact h3 _ a3 (by omega) a1) h4
  have fzs:∀ (S':St) (hi:Nat),N≤hi→(∀ y,y<N→y≠R→y≠b→S'.B y=S1.B y)→∀ B':Nat→Option (List SV),(∀ x,S0.nx≤x→x<hi→x≠b→B' x=S'.B x)→frz B' 12 f.sv=some (fldsD d.flds)∧frz B' 12 w0.sv=some (namesD d.words):=fun S' hi h1 h2 B' hB'=>by
    refine⟨fzf B' fun p hp=>?_,fzw B' fun p hp=>?_⟩
    · obtain⟨a1,a2,a3,a4⟩:=hvb p (hvf p hp)
      rw[hB' _ a2 (by omega) a1,h2 _ a3 (by omega) a1,a4]
    · obtain⟨a1,a2,a3,a4⟩:=hvb p (hvw p hp)
      rw[hB' _ a2 (by omega) a1,h2 _ a3 (by omega) a1,a4]
  obtain⟨f1,f2,f3⟩:=z_one hf
  have hB0:svs (A++([.d (.string d.name), .d (.int .i64 d.kind),f,w0]++Z))=svs A++(.d (dS d.name)::.d (dI d.kind)::f.sv::w0.sv::svs Z):=by simp
  rw[hB0] at b_S2
  have lst0:∀ (S':St),(∀ y,y<N→y≠R→S'.B y=Sr.B y)→LstF S' S0.nx N (.sk b 7 4) schemaL:=fun S' hS'=>by
    have hS2:∀ y,y<N→y≠R→y≠b→S'.B y=S1.B y:=fun y k1 k2 _=>(hS' y k1 k2).trans (by rw[hSr])
    rw[hL]
    refine fin2 S' N [.d (dS d.name), .d (dI d.kind),f.sv,w0.sv] d (Nat.le_refl _) ?_ hS2 (fun B' hB'=>mapO4 rfl rfl (fzs S' N (Nat.le_refl _) hS2 B' hB').1 (fzs S' N (Nat.le_refl _) hS2 B' hB').2)
    rw[hS' b (by omega) n2, ← hSr,hbb,hB0]
    rfl
  have hZ4:k*4+(Z.length+4)=28:=by
    have:=congrArg List.length hZ
    rw[shs_len,rowsZ_len (fun x=>by simp:∀ x:Def,(Def.sz x).length=4)] at this
    omega
  have h28:∀ x y z w:SV,List.take 28 (svs A++x::y::z::w::svs Z)=svs A++x::y::z::w::svs Z:=fun x y z w=>List.take_of_length_le (by simp;omega)
  have gotE:∀ (S5 S':St) (q:Nat),(∀ y,y<N→y≠R→S5.B y=Sr.B y)→(∀ y,y<N→S5.T y=Sr.T y)→S'.n=S0.n→S'.gl=S0.gl→S'.md=S0.md→S0.nx≤S'.nx→S'.B R=some (rdP c q)→(∀ y,y<S0.nx→y≠R→S'.B y=S5.B y)→S'.T=S5.T→Got S0 S' R (rdP c q) []:=fun S5 S' q g1 g2 g3 g4 g5 g6 g7 g8 g9 =>
    ⟨g3,g4,g5,g6,g7,fun y k1 k2=>(g8 y k1 k2).trans ((g1 y (by omega) k2).trans ((by rw[hSr]:Sr.B y=S1.B y).trans (S1_o y k1))),fun y k1=>by rw[g9];exact (g2 y (by omega)).trans ((by rw[hSr]:Sr.T y=S1.T y).trans (S1_t y k1)), .nil⟩
  have gotT:∀ (S5 S':St) (q:Nat),(∀ y,y<N→y≠R→S5.B y=Sr.B y)→(∀ y,y<N→S5.T y=Sr.T y)→S'.n=S0.n→S'.gl=S0.gl→S'.md=S0.md→S0.nx≤S'.nx→S'.B R=some (rdP c q)→(∀ y,y<S0.nx→y≠R→S'.B y=S5.B y)→(∀ y,y<S0.nx→S'.T y=S5.T y)→Got S0 S' R (rdP c q) []:=fun S5 S' q g1 g2 g3 g4 g5 g6 g7 g8 g9 =>
    ⟨g3,g4,g5,g6,g7,fun y k1 k2=>(g8 y k1 k2).trans ((g1 y (by omega) k2).trans ((by rw[hSr]:Sr.B y=S1.B y).trans (S1_o y k1))),fun y k1=>by rw[g9 y k1];exact (g2 y (by omega)).trans ((by rw[hSr]:Sr.T y=S1.T y).trans (S1_t y k1)), .nil⟩
  have hdr:=fun j Y=>drop_add hAl2 j Y
  have htk:=fun j Y=>take_add hAl2 j Y
  have hd2:∀ Y:List SV,(svs A++Y).drop (k*4+1+1)=Y.drop 2:=fun Y=>drop_add hAl2 2 Y
  have hd3:∀ Y:List SV,(svs A++Y).drop (k*4+2+1)=Y.drop 3:=fun Y=>drop_add hAl2 3 Y
  refine CallT.x (x_pick _ R c (p+1) 14 (by first | omega | (simp;omega)) (by simp[h,S1_n,S1_gl,S1_md,R_S1,n1,n2,hbb,S2_n,S2_gl,S2_md,S2_rd,b_S2,hAl2,f1,f2,f3,hdr,htk,hd2,hd3]) hc (by omega) (by omega) (by omega)) rfl (fun r3 S3 h3=>?_)
  obtain⟨q3,hG3⟩:=h3
  subst q3
  have hm:=pickK_lt c (p+1) 14 (by omega)
  generalize pickK c (p+1) 14=m at hm
  have S3_n:=hG3.n
  try simp[h,S1_n,S1_gl,S1_md,R_S1,n1,n2,hbb,S2_n,S2_gl,S2_md,S2_rd,b_S2,hAl2,f1,f2,f3,hdr,htk,hd2,hd3] at S3_n
  have S3_gl:=hG3.gl
  try simp[h,S1_n,S1_gl,S1_md,R_S1,n1,n2,hbb,S2_n,S2_gl,S2_md,S2_rd,b_S2,hAl2,f1,f2,f3,hdr,htk,hd2,hd3,S3_n] at S3_gl
  have S3_md:=hG3.md
  try simp[h,S1_n,S1_gl,S1_md,R_S1,n1,n2,hbb,S2_n,S2_gl,S2_md,S2_rd,b_S2,hAl2,f1,f2,f3,hdr,htk,hd2,hd3,S3_n,S3_gl] at S3_md
  have S3_nx:=hG3.nx
  try simp[h,S1_n,S1_gl,S1_md,R_S1,n1,n2,hbb,S2_n,S2_gl,S2_md,S2_rd,b_S2,hAl2,f1,f2,f3,hdr,htk,hd2,hd3,S3_n,S3_gl,S3_md] at S3_nx
  have S3_rd:=hG3.rd
  have b_S3:=hG3.old b (by first | omega | (simp;omega)) (by omega)
  try simp[h,S1_n,S1_gl,S1_md,R_S1,n1,n2,hbb,S2_n,S2_gl,S2_md,S2_rd,b_S2,hAl2,f1,f2,f3,hdr,htk,hd2,hd3,S3_n,S3_gl,S3_md,S3_rd] at b_S3
  have S3_o:∀ y,y<N→y≠R→S3.B y=Sr.B y:=fun y k1 k2=>by
    have a1:=hG3.old y (by first | omega | (simp;omega)) k2
    try simp[] at a1
    exact a1.trans (S2_o y k1 k2)
  have S3_t:∀ y,y<N→S3.T y=Sr.T y:=fun y k1=>by
    have a1:=hG3.T y (by first | omega | (simp;omega))
    try simp at a1
    exact a1.trans (S2_t y k1)
  rcases (by omega:m=0∨m=1∨m=2∨m=3∨m=4∨m=5∨m=6∨m=7∨m=8∨9≤m) with rfl | rfl | rfl | rfl | rfl | rfl | rfl | rfl | rfl | hm9
  · simp[h,S1_n,S1_gl,S1_md,R_S1,n1,n2,hbb,S2_n,S2_gl,S2_md,S2_rd,b_S2,hAl2,f1,f2,f3,hdr,htk,hd2,hd3,S3_n,S3_gl,S3_md,S3_rd,b_S3]
    refine CallT.x (x_of _ R c (p+2) _ [⟨#[73,110,116]⟩,⟨#[81,117,101,114,121]⟩,⟨#[79,116,104,101,114]⟩,⟨#[49]⟩] (.inl rfl) (by simp) (by simp) (by first | omega | (simp;omega)) (by simp[h,S1_n,S1_gl,S1_md,R_S1,n1,n2,hbb,S2_n,S2_gl,S2_md,S2_rd,b_S2,hAl2,f1,f2,f3,hdr,htk,hd2,hd3,S3_n,S3_gl,S3_md,S3_rd,b_S3]) hc (by omega)) rfl (fun r4 S4 h4=>?_)
    obtain⟨q4,hG4⟩:=h4
    subst q4
    have S4_n:=hG4.n
    try simp[h,S1_n,S1_gl,S1_md,R_S1,n1,n2,hbb,S2_n,S2_gl,S2_md,S2_rd,b_S2,hAl2,f1,f2,f3,hdr,htk,hd2,hd3,S3_n,S3_gl,S3_md,S3_rd,b_S3] at S4_n
    have S4_gl:=hG4.gl
    try simp[h,S1_n,S1_gl,S1_md,R_S1,n1,n2,hbb,S2_n,S2_gl,S2_md,S2_rd,b_S2,hAl2,f1,f2,f3,hdr,htk,hd2,hd3,S3_n,S3_gl,S3_md,S3_rd,b_S3,S4_n] at S4_gl
    have S4_md:=hG4.md
    try simp[h,S1_n,S1_gl,S1_md,R_S1,n1,n2,hbb,S2_n,S2_gl,S2_md,S2_rd,b_S2,hAl2,f1,f2,f3,hdr,htk,hd2,hd3,S3_n,S3_gl,S3_md,S3_rd,b_S3,S4_n,S4_gl] at S4_md
    have S4_nx:=hG4.nx
    try simp[h,S1_n,S1_gl,S1_md,R_S1,n1,n2,hbb,S2_n,S2_gl,S2_md,S2_rd,b_S2,hAl2,f1,f2,f3,hdr,htk,hd2,hd3,S3_n,S3_gl,S3_md,S3_rd,b_S3,S4_n,S4_gl,S4_md] at S4_nx
    have S4_rd:=hG4.rd
    have b_S4:=hG4.old b (by first | omega | (simp;omega)) (by omega)
    try simp[h,S1_n,S1_gl,S1_md,R_S1,n1,n2,hbb,S2_n,S2_gl,S2_md,S2_rd,b_S2,hAl2,f1,f2,f3,hdr,htk,hd2,hd3,S3_n,S3_gl,S3_md,S3_rd,b_S3,S4_n,S4_gl,S4_md,S4_rd] at b_S4
    have S4_o:∀ y,y<N→y≠R→S4.B y=Sr.B y:=fun y k1 k2=>by
      have a1:=hG4.old y (by first | omega | (simp;omega)) k2
      try simp[] at a1
      exact a1.trans (S3_o y k1 k2)
    have S4_t:∀ y,y<N→S4.T y=Sr.T y:=fun y k1=>by
      have a1:=hG4.T y (by first | omega | (simp;omega))
      try simp at a1
      exact a1.trans (S3_t y k1)
    have hnm:=ofK_mem c (p+2) (l:=[⟨#[73,110,116]⟩,⟨#[81,117,101,114,121]⟩,⟨#[79,116,104,101,114]⟩,⟨#[49]⟩]) (by simp)
    generalize ofK c (p+2) _=nm at hnm
    have hnm2:nm.size≤40∧nm≠freshS∧nm≠nobodyS:=by
      simp only[List.mem_cons,List.not_mem_nil,or_false] at hnm
      rcases hnm with rfl | rfl | rfl | rfl<;>decide
    simp[h,S1_n,S1_gl,S1_md,R_S1,n1,n2,hbb,S2_n,S2_gl,S2_md,S2_rd,b_S2,hAl2,f1,f2,f3,hdr,htk,hd2,hd3,S3_n,S3_gl,S3_md,S3_rd,b_S3,S4_n,S4_gl,S4_md,S4_rd,b_S4]
    refine⟨LA++⟨nm,d.kind,d.flds,d.words⟩::LZ,LstF.g ?_,k_mid hK0 ?_,by simp;omega,p+3,⟨rfl,rfl,rfl,by simp;omega,by simp[h,S1_n,S1_gl,S1_md,R_S1,n1,n2,hbb,S2_n,S2_gl,S2_md,S2_rd,b_S2,hAl2,f1,f2,f3,hdr,htk,hd2,hd3,S3_n,S3_gl,S3_md,S3_rd,b_S3,S4_n,S4_gl,S4_md,S4_rd,b_S4],?_,?_, .nil⟩,by omega⟩
    · have hold:∀ y,y<N→y≠R→y≠b→(S4.set b (svs A++(.d (dS nm)::.d (dI d.kind)::f.sv::w0.sv::svs Z))).B y=S1.B y:=fun y k1 k2 k3=>by
        simp[k3]
        exact (S4_o y k1 k2).trans (by rw[hSr])
      refine fin2 _ _ [.d (dS nm), .d (dI d.kind),f.sv,w0.sv] ⟨nm,d.kind,d.flds,d.words⟩ (by first | omega | (simp;done)|(simp;omega)) (by simp[h,S1_n,S1_gl,S1_md,R_S1,n1,n2,hbb,S2_n,S2_gl,S2_md,S2_rd,b_S2,hAl2,f1,f2,f3,hdr,htk,hd2,hd3,S3_n,S3_gl,S3_md,S3_rd,b_S3,S4_n,S4_gl,S4_md,S4_rd,b_S4]) (fun y k1 k2 k3=>?_) (fun B' hB'=>?_)
      · simp[k3]
        exact (S4_o y k1 k2).trans (by rw[hSr])
      · obtain⟨z1,z2⟩:=fzs (S4.set b (svs A++(.d (dS nm)::.d (dI d.kind)::f.sv::w0.sv::svs Z))) _ (Nat.le_refl _) hold B' (fun x k1 k2 k3=>(hB' x k1 (by first | omega | (simp;done)|(simp;omega)) k3).trans (by simp[k3]))
        exact mapO4 rfl rfl z1 z2
    · exact⟨⟨by show nm.size≤_;omega,hKd.1.2⟩,hnm2.2⟩
    · intro y k1 k2
      have z1:¬ y=b:=by omega
      have a4:=S4_o y (by omega) k2
      simp[z1]
      exact a4.trans ((by rw[hSr]:Sr.B y=S1.B y).trans (S1_o y k1))
    · intro y k1
      have a4:=S4_t y (by omega)
      simp
      exact a4.trans ((by rw[hSr]:Sr.T y=S1.T y).trans (S1_t y k1))
  · simp[h,S1_n,S1_gl,S1_md,R_S1,n1,n2,hbb,S2_n,S2_gl,S2_md,S2_rd,b_S2,hAl2,f1,f2,f3,hdr,htk,hd2,hd3,S3_n,S3_gl,S3_md,S3_rd,b_S3]
    refine CallT.x (x_one _ R c (p+2) _ [0,1,2,3,4,5] (.inl rfl) (by simp) (by simp) (by first | omega | (simp;omega)) (by simp[h,S1_n,S1_gl,S1_md,R_S1,n1,n2,hbb,S2_n,S2_gl,S2_md,S2_rd,b_S2,hAl2,f1,f2,f3,hdr,htk,hd2,hd3,S3_n,S3_gl,S3_md,S3_rd,b_S3]) hc (by omega)) rfl (fun r4 S4 h4=>?_)
    obtain⟨q4,hG4⟩:=h4
    subst q4
    have S4_n:=hG4.n
    try simp[h,S1_n,S1_gl,S1_md,R_S1,n1,n2,hbb,S2_n,S2_gl,S2_md,S2_rd,b_S2,hAl2,f1,f2,f3,hdr,htk,hd2,hd3,S3_n,S3_gl,S3_md,S3_rd,b_S3] at S4_n
    have S4_gl:=hG4.gl
    try simp[h,S1_n,S1_gl,S1_md,R_S1,n1,n2,hbb,S2_n,S2_gl,S2_md,S2_rd,b_S2,hAl2,f1,f2,f3,hdr,htk,hd2,hd3,S3_n,S3_gl,S3_md,S3_rd,b_S3,S4_n] at S4_gl
    have S4_md:=hG4.md
    try simp[h,S1_n,S1_gl,S1_md,R_S1,n1,n2,hbb,S2_n,S2_gl,S2_md,S2_rd,b_S2,hAl2,f1,f2,f3,hdr,htk,hd2,hd3,S3_n,S3_gl,S3_md,S3_rd,b_S3,S4_n,S4_gl] at S4_md
    have S4_nx:=hG4.nx
    try simp[h,S1_n,S1_gl,S1_md,R_S1,n1,n2,hbb,S2_n,S2_gl,S2_md,S2_rd,b_S2,hAl2,f1,f2,f3,hdr,htk,hd2,hd3,S3_n,S3_gl,S3_md,S3_rd,b_S3,S4_n,S4_gl,S4_md] at S4_nx
    have S4_rd:=hG4.rd
    have b_S4:=hG4.old b (by first | omega | (simp;omega)) (by omega)
    try simp[h,S1_n,S1_gl,S1_md,R_S1,n1,n2,hbb,S2_n,S2_gl,S2_md,S2_rd,b_S2,hAl2,f1,f2,f3,hdr,htk,hd2,hd3,S3_n,S3_gl,S3_md,S3_rd,b_S3,S4_n,S4_gl,S4_md,S4_rd] at b_S4
    have S4_o:∀ y,y<N→y≠R→S4.B y=Sr.B y:=fun y k1 k2=>by
      have a1:=hG4.old y (by first | omega | (simp;omega)) k2
      try simp[] at a1
      exact a1.trans (S3_o y k1 k2)
    have S4_t:∀ y,y<N→S4.T y=Sr.T y:=fun y k1=>by
      have a1:=hG4.T y (by first | omega | (simp;omega))
      try simp at a1
      exact a1.trans (S3_t y k1)
    generalize oneK c (p+2) _=nk
    simp[h,S1_n,S1_gl,S1_md,R_S1,n1,n2,hbb,S2_n,S2_gl,S2_md,S2_rd,b_S2,hAl2,f1,f2,f3,hdr,htk,hd2,hd3,S3_n,S3_gl,S3_md,S3_rd,b_S3,S4_n,S4_gl,S4_md,S4_rd,b_S4]
    refine⟨by omega,?_⟩
    refine⟨LA++⟨d.name,nk,d.flds,d.words⟩::LZ,LstF.g ?_,k_mid hK0 ?_,by simp;omega,p+3,⟨rfl,rfl,rfl,by simp;omega,by simp[h,S1_n,S1_gl,S1_md,R_S1,n1,n2,hbb,S2_n,S2_gl,S2_md,S2_rd,b_S2,hAl2,f1,f2,f3,hdr,htk,hd2,hd3,S3_n,S3_gl,S3_md,S3_rd,b_S3,S4_n,S4_gl,S4_md,S4_rd,b_S4],?_,?_, .nil⟩,by omega⟩
    · have hold:∀ y,y<N→y≠R→y≠b→(S4.set b (svs A++(.d (dS d.name)::.d (dI nk)::f.sv::w0.sv::svs Z))).B y=S1.B y:=fun y k1 k2 k3=>by
        simp[k3]
        exact (S4_o y k1 k2).trans (by rw[hSr])
      refine fin2 _ _ [.d (dS d.name), .d (dI nk),f.sv,w0.sv] ⟨d.name,nk,d.flds,d.words⟩ (by first | omega | (simp;done)|(simp;omega)) (by simp[h,S1_n,S1_gl,S1_md,R_S1,n1,n2,hbb,S2_n,S2_gl,S2_md,S2_rd,b_S2,hAl2,f1,f2,f3,hdr,htk,hd2,hd3,S3_n,S3_gl,S3_md,S3_rd,b_S3,S4_n,S4_gl,S4_md,S4_rd,b_S4]) (fun y k1 k2 k3=>?_) (fun B' hB'=>?_)
      · simp[k3]
        exact (S4_o y k1 k2).trans (by rw[hSr])
      · obtain⟨z1,z2⟩:=fzs (S4.set b (svs A++(.d (dS d.name)::.d (dI nk)::f.sv::w0.sv::svs Z))) _ (Nat.le_refl _) hold B' (fun x k1 k2 k3=>(hB' x k1 (by first | omega | (simp;done)|(simp;omega)) k3).trans (by simp[k3]))
        exact mapO4 rfl rfl z1 z2
    · exact hKd
    · intro y k1 k2
      have z1:¬ y=b:=by omega
      have a4:=S4_o y (by omega) k2
      simp[z1]
      exact a4.trans ((by rw[hSr]:Sr.B y=S1.B y).trans (S1_o y k1))
    · intro y k1
      have a4:=S4_t y (by omega)
      simp
      exact a4.trans ((by rw[hSr]:Sr.T y=S1.T y).trans (S1_t y k1))
  · simp[h,S1_n,S1_gl,S1_md,R_S1,n1,n2,hbb,S2_n,S2_gl,S2_md,S2_rd,b_S2,hAl2,f1,f2,f3,hdr,htk,hd2,hd3,S3_n,S3_gl,S3_md,S3_rd,b_S3]
    rcases ld_z hf with ⟨rfl,hf0⟩ | ⟨b2,fc,rfl,hfc,hf0⟩
    · simp[h,S1_n,S1_gl,S1_md,R_S1,n1,n2,hbb,S2_n,S2_gl,S2_md,S2_rd,b_S2,hAl2,f1,f2,f3,hdr,htk,hd2,hd3,S3_n,S3_gl,S3_md,S3_rd,b_S3]
      refine⟨schemaL,LstF.g ((lst0 S3 S3_o).keep (fun _ _ _=>rfl) (Nat.le_refl _) (by omega)),schema_k,by decide,p+2,gotE S3 _ (p+2) S3_o S3_t rfl rfl rfl (by simp;omega) S3_rd (fun _ _ _=>rfl) rfl,by omega⟩
    · have hfp:0<d.flds.length:=by omega
      have hvf2:=hvb (b2,svs fc) (hvf _ (by simp[Ld.vars]))
      have b2_S3:=S3_o b2 hvf2.2.2.1 (by have:=hvf2.2.1;omega)
      rw[← hSr,hvf2.2.2.2] at b2_S3
      have n7:¬ b=b2:=fun e=>hvf2.1 e.symm
      have n8:¬ b2=b:=fun e=>hvf2.1 e
      have n9:¬ b2=R:=by have:=hvf2.2.1;omega
      simp[h,S1_n,S1_gl,S1_md,R_S1,n1,n2,hbb,S2_n,S2_gl,S2_md,S2_rd,b_S2,hAl2,f1,f2,f3,hdr,htk,hd2,hd3,S3_n,S3_gl,S3_md,S3_rd,b_S3,hfp,b2_S3,n7,n8,n9]
      refine⟨DrawT.mk (by kernel_rfl),?_⟩
      obtain⟨r4,S4,hL4,q4,hG4⟩:=x_pick (((((S3.adv 2).adv 2).adv 2).adv 6).adv 17) R c (p+2) d.flds.length (by first | omega | (simp;omega)) (by simp[h,S1_n,S1_gl,S1_md,R_S1,n1,n2,hbb,S2_n,S2_gl,S2_md,S2_rd,b_S2,hAl2,f1,f2,f3,hdr,htk,hd2,hd3,S3_n,S3_gl,S3_md,S3_rd,b_S3,hfp,b2_S3,n7,n8,n9]) hc (by omega) (by omega) (by omega)
      subst q4
      have hi5:=pickK_lt c (p+2) d.flds.length (by omega)
      generalize pickK c (p+2) d.flds.length=i at hi5 hL4
      obtain⟨A2,a2,T2,Z2,LA2,g2,LZ2,rfl,hL2,hA2k,hA2l,hA2,hZ2,ha2,hT2⟩:=flds_split hfc hi5
      obtain⟨ta,tb,tc,rfl⟩:=three_of (by rw[← shs_len,hT2];simp:T2.length=3)
      obtain⟨x1,x2,x3⟩:=z_one ha2
      have hA2s:(svs A2).length=i*5:=by rw[svs_len];exact hA2l
      have hdr2:=fun j Y=>drop_add hA2s j Y
      have htk2:=fun j Y=>take_add hA2s j Y
      have hd5:∀ Y:List SV,(svs A2++Y).drop (i*5+2+3)=Y.drop 5:=fun Y=>drop_add hA2s 5 Y
      simp only[svs_app,svs_cons,Ld.sv_d,svs_nil,List.cons_append,List.nil_append] at b2_S3
      have S4_n:=hG4.n
      try simp[h,S1_n,S1_gl,S1_md,R_S1,n1,n2,hbb,S2_n,S2_gl,S2_md,S2_rd,b_S2,hAl2,f1,f2,f3,hdr,htk,hd2,hd3,S3_n,S3_gl,S3_md,S3_rd,b_S3,hfp,b2_S3,n7,n8,n9] at S4_n
      have S4_gl:=hG4.gl
      try simp[h,S1_n,S1_gl,S1_md,R_S1,n1,n2,hbb,S2_n,S2_gl,S2_md,S2_rd,b_S2,hAl2,f1,f2,f3,hdr,htk,hd2,hd3,S3_n,S3_gl,S3_md,S3_rd,b_S3,hfp,b2_S3,n7,n8,n9,S4_n] at S4_gl
      have S4_md:=hG4.md
      try simp[h,S1_n,S1_gl,S1_md,R_S1,n1,n2,hbb,S2_n,S2_gl,S2_md,S2_rd,b_S2,hAl2,f1,f2,f3,hdr,htk,hd2,hd3,S3_n,S3_gl,S3_md,S3_rd,b_S3,hfp,b2_S3,n7,n8,n9,S4_n,S4_gl] at S4_md
      have S4_nx:=hG4.nx
      try simp[h,S1_n,S1_gl,S1_md,R_S1,n1,n2,hbb,S2_n,S2_gl,S2_md,S2_rd,b_S2,hAl2,f1,f2,f3,hdr,htk,hd2,hd3,S3_n,S3_gl,S3_md,S3_rd,b_S3,hfp,b2_S3,n7,n8,n9,S4_n,S4_gl,S4_md] at S4_nx
      have S4_rd:=hG4.rd
      have b_S4:=hG4.old b (by first | omega | (simp;omega)) (by omega)
      try simp[h,S1_n,S1_gl,S1_md,R_S1,n1,n2,hbb,S2_n,S2_gl,S2_md,S2_rd,b_S2,hAl2,f1,f2,f3,hdr,htk,hd2,hd3,S3_n,S3_gl,S3_md,S3_rd,b_S3,hfp,b2_S3,n7,n8,n9,S4_n,S4_gl,S4_md,S4_rd] at b_S4
      have b2_S4:=hG4.old b2 (by first | omega | (simp;omega)) (by omega)
      try simp[h,S1_n,S1_gl,S1_md,R_S1,n1,n2,hbb,S2_n,S2_gl,S2_md,S2_rd,b_S2,hAl2,f1,f2,f3,hdr,htk,hd2,hd3,S3_n,S3_gl,S3_md,S3_rd,b_S3,hfp,b2_S3,n7,n8,n9,S4_n,S4_gl,S4_md,S4_rd,b_S4] at b2_S4
      have S4_o:∀ y,y<N→y≠R→S4.B y=Sr.B y:=fun y k1 k2=>by
        have a1:=hG4.old y (by first | omega | (simp;omega)) k2
        try simp[] at a1
        exact a1.trans (S3_o y k1 k2)
      have S4_t:∀ y,y<N→S4.T y=Sr.T y:=fun y k1=>by
        have a1:=hG4.T y (by first | omega | (simp;omega))
        try simp at a1
        exact a1.trans (S3_t y k1)
      refine CallT.calm [((3,5),10)] (by kernel_rfl) (by kernel_rfl) hL4 ?_ ?_
      · simp[h,S1_n,S1_gl,S1_md,R_S1,n1,n2,hbb,S2_n,S2_gl,S2_md,S2_rd,b_S2,hAl2,f1,f2,f3,hdr,htk,hd2,hd3,S3_n,S3_gl,S3_md,S3_rd,b_S3,hfp,b2_S3,n7,n8,n9,S4_n,S4_gl,S4_md,S4_rd,b_S4,b2_S4,Eh.e,refOf]
      simp[h,S1_n,S1_gl,S1_md,R_S1,n1,n2,hbb,S2_n,S2_gl,S2_md,S2_rd,b_S2,hAl2,f1,f2,f3,hdr,htk,hd2,hd3,S3_n,S3_gl,S3_md,S3_rd,b_S3,hfp,b2_S3,n7,n8,n9,S4_n,S4_gl,S4_md,S4_rd,b_S4,b2_S4,x1,x2,x3,hA2s,hdr2,htk2,hd5]
      obtain⟨r5,S5,hL5,t5,kk5,q5,hr5,hW5,hk5,hG5,hq5⟩:=l_type13 S4 R c (p+3) (.fl [dS ⟨#[73,110,116]⟩,dS ⟨#[78,111,110,101]⟩,dS ⟨#[73,110]⟩,dS ⟨#[80,101,114,115,111,110]⟩,dS ⟨#[75,105,110,100]⟩] 5) [⟨#[73,110,116]⟩,⟨#[78,111,110,101]⟩,⟨#[73,110]⟩,⟨#[80,101,114,115,111,110]⟩,⟨#[75,105,110,100]⟩] (.inl rfl) (by simp) (by simp) (by first | omega | (simp;omega)) (by simp[h,S1_n,S1_gl,S1_md,R_S1,n1,n2,hbb,S2_n,S2_gl,S2_md,S2_rd,b_S2,hAl2,f1,f2,f3,hdr,htk,hd2,hd3,S3_n,S3_gl,S3_md,S3_rd,b_S3,hfp,b2_S3,n7,n8,n9,S4_n,S4_gl,S4_md,S4_rd,b_S4,b2_S4,x1,x2,x3,hA2s,hdr2,htk2,hd5]) hc (by omega)
      subst hr5
      have S5_n:=hG5.n
      try simp[h,S1_n,S1_gl,S1_md,R_S1,n1,n2,hbb,S2_n,S2_gl,S2_md,S2_rd,b_S2,hAl2,f1,f2,f3,hdr,htk,hd2,hd3,S3_n,S3_gl,S3_md,S3_rd,b_S3,hfp,b2_S3,n7,n8,n9,S4_n,S4_gl,S4_md,S4_rd,b_S4,b2_S4,x1,x2,x3,hA2s,hdr2,htk2,hd5] at S5_n
      have S5_gl:=hG5.gl
      try simp[h,S1_n,S1_gl,S1_md,R_S1,n1,n2,hbb,S2_n,S2_gl,S2_md,S2_rd,b_S2,hAl2,f1,f2,f3,hdr,htk,hd2,hd3,S3_n,S3_gl,S3_md,S3_rd,b_S3,hfp,b2_S3,n7,n8,n9,S4_n,S4_gl,S4_md,S4_rd,b_S4,b2_S4,x1,x2,x3,hA2s,hdr2,htk2,hd5,S5_n] at S5_gl
      have S5_md:=hG5.md
      try simp[h,S1_n,S1_gl,S1_md,R_S1,n1,n2,hbb,S2_n,S2_gl,S2_md,S2_rd,b_S2,hAl2,f1,f2,f3,hdr,htk,hd2,hd3,S3_n,S3_gl,S3_md,S3_rd,b_S3,hfp,b2_S3,n7,n8,n9,S4_n,S4_gl,S4_md,S4_rd,b_S4,b2_S4,x1,x2,x3,hA2s,hdr2,htk2,hd5,S5_n,S5_gl] at S5_md
      have S5_nx:=hG5.nx
      try simp[h,S1_n,S1_gl,S1_md,R_S1,n1,n2,hbb,S2_n,S2_gl,S2_md,S2_rd,b_S2,hAl2,f1,f2,f3,hdr,htk,hd2,hd3,S3_n,S3_gl,S3_md,S3_rd,b_S3,hfp,b2_S3,n7,n8,n9,S4_n,S4_gl,S4_md,S4_rd,b_S4,b2_S4,x1,x2,x3,hA2s,hdr2,htk2,hd5,S5_n,S5_gl,S5_md] at S5_nx
      have S5_rd:=hG5.rd
      have b_S5:=hG5.old b (by first | omega | (simp;omega)) (by omega)
      try simp[h,S1_n,S1_gl,S1_md,R_S1,n1,n2,hbb,S2_n,S2_gl,S2_md,S2_rd,b_S2,hAl2,f1,f2,f3,hdr,htk,hd2,hd3,S3_n,S3_gl,S3_md,S3_rd,b_S3,hfp,b2_S3,n7,n8,n9,S4_n,S4_gl,S4_md,S4_rd,b_S4,b2_S4,x1,x2,x3,hA2s,hdr2,htk2,hd5,S5_n,S5_gl,S5_md,S5_rd] at b_S5
      have b2_S5:=hG5.old b2 (by first | omega | (simp;omega)) (by omega)
      try simp[h,S1_n,S1_gl,S1_md,R_S1,n1,n2,hbb,S2_n,S2_gl,S2_md,S2_rd,b_S2,hAl2,f1,f2,f3,hdr,htk,hd2,hd3,S3_n,S3_gl,S3_md,S3_rd,b_S3,hfp,b2_S3,n7,n8,n9,S4_n,S4_gl,S4_md,S4_rd,b_S4,b2_S4,x1,x2,x3,hA2s,hdr2,htk2,hd5,S5_n,S5_gl,S5_md,S5_rd,b_S5] at b2_S5
      have S5_o:∀ y,y<N→y≠R→S5.B y=Sr.B y:=fun y k1 k2=>by
        have a1:=hG5.old y (by first | omega | (simp;omega)) k2
        try simp[] at a1
        exact a1.trans (S4_o y k1 k2)
      have S5_t:∀ y,y<N→S5.T y=Sr.T y:=fun y k1=>by
        have a1:=hG5.T y (by first | omega | (simp;omega))
        try simp at a1
        exact a1.trans (S4_t y k1)
      refine CallT.calm [((3,5),13)] (by kernel_rfl) (by kernel_rfl) hL5 ?_ ?_
      · simp[h,S1_n,S1_gl,S1_md,R_S1,n1,n2,hbb,S2_n,S2_gl,S2_md,S2_rd,b_S2,hAl2,f1,f2,f3,hdr,htk,hd2,hd3,S3_n,S3_gl,S3_md,S3_rd,b_S3,hfp,b2_S3,n7,n8,n9,S4_n,S4_gl,S4_md,S4_rd,b_S4,b2_S4,x1,x2,x3,hA2s,hdr2,htk2,hd5,S5_n,S5_gl,S5_md,S5_rd,b_S5,b2_S5,Eh.e,refOf]
      have htl:=hW5.tle (by simp;decide)
      obtain⟨s5,l5,m5⟩:=t5
      simp only[typV]
      simp[h,S1_n,S1_gl,S1_md,R_S1,n1,n2,hbb,S2_n,S2_gl,S2_md,S2_rd,b_S2,hAl2,f1,f2,f3,hdr,htk,hd2,hd3,S3_n,S3_gl,S3_md,S3_rd,b_S3,hfp,b2_S3,n7,n8,n9,S4_n,S4_gl,S4_md,S4_rd,b_S4,b2_S4,x1,x2,x3,hA2s,hdr2,htk2,hd5,S5_n,S5_gl,S5_md,S5_rd,b_S5,b2_S5]
      have hl2:Z2.length+1+1+1+1+1≥5:=by omega
      refine⟨hi5,by omega,?_⟩
      obtain⟨hm1,hm2,hm3⟩:=vars_mid hnd.2
      have hfd:d.flds=LA2++g2::LZ2:=hL2
      refine⟨LA++⟨d.name,d.kind,LA2++⟨g2.name,g2.args, .mk s5 l5 m5⟩::LZ2,d.words⟩::LZ,LstF.g ?_,k_mid hK0 ?_,by simp;omega,q5,gotE S5 _ q5 S5_o S5_t rfl rfl rfl (by simp;omega) ?_ ?_ rfl,by omega⟩
      · refine fin _ _ [.d (dS d.name), .d (dI d.kind), .sk b2 d.flds.length 5,w0.sv] ⟨d.name,d.kind,LA2++⟨g2.name,g2.args, .mk s5 l5 m5⟩::LZ2,d.words⟩ (by first | omega | (simp;omega)) (by simp[n7,b_S5]) (fun p hp=>?_) (fun B' hB'=>?_)
        · have z3:¬ p.1=b2:=hm1 p hp
          obtain⟨a1,a2,a3,a4⟩:=hvb p (hvAZ p hp)
          simp[z3]
          exact (S5_o _ a3 (by omega)).trans (by rw[hSr])
        · have hq:∀ x,S0.nx≤x→x<N→x≠b→x≠b2→B' x=S1.B x:=fun x k1 k2 k3 k4=>by
            have h9:=hB' x k1 (by first | omega | (simp;omega)) k3
            simp[k4] at h9
            exact h9.trans ((S5_o x k2 (by omega)).trans (by rw[hSr]))
          have hid9:=hB' b2 hvf2.2.1 (by have:=hvf2.2.2.1;first | omega | (simp;omega)) n8
          simp at hid9
          have hv9:∀ p∈varsL (A2++([Ld.d (.string g2.name),a2]++([ta,tb,tc]++Z2))),B' p.1=some p.2:=fun p hp=>by
            obtain⟨a1,a2,a3,a4⟩:=hvb p (hvf p (by simp only[Ld.vars];exact List.mem_cons_of_mem _ hp))
            rw[hq _ a2 a3 a1 (hm2 p hp),a4]
          have hdp:depL (shs (A2++([Ld.d (.string g2.name),a2]++([ta,tb,tc]++Z2))))<11:=by
            have:=hdep
            simp only[Ld.sh,Sk.dep] at this
            omega
          rw[shs_app,depL_app,shs_app,depL_app,shs_app,depL_app] at hdp
          have r1:=(frz_lds (B:=B') A2 11 (fun p hp=>hv9 p (by rw[varsL_app];exact List.mem_append_left _ hp)) (by omega)).1
          have r2:=(frz_lds (B:=B') [Ld.d (.string g2.name),a2] 11 (fun p hp=>hv9 p (by rw[varsL_app];exact List.mem_append_right _ (by rw[varsL_app];exact List.mem_append_left _ hp))) (by omega)).1
          have r3:=(frz_lds (B:=B') Z2 11 (fun p hp=>hv9 p (by rw[varsL_app];exact List.mem_append_right _ (by rw[varsL_app];exact List.mem_append_right _ (by rw[varsL_app];exact List.mem_append_right _ hp)))) (by omega)).1
          have r4:mapO (frz B' 11) [SV.d (dS s5),SV.fl (typsCells l5) l5.length,SV.d (dB m5)]=some [dS s5, .ps (typsCells l5) l5.length,dB m5]:=rfl
          have e9:mapO (frz B' 11) (svs A2++SV.d (D.v (Value.string g2.name))::a2.sv::SV.d (dS s5)::SV.fl (typsCells l5) l5.length::SV.d (dB m5)::svs Z2)=some (fldsCells (LA2++⟨g2.name,g2.args, .mk s5 l5 m5⟩::LZ2)):=by
            have h9:=mapO_app r1 (mapO_app r2 (mapO_app r4 r3))
            have e5:dataL (shs [Ld.d (.string g2.name),a2])=[dS g2.name,argsD g2.args]:=by
              simp only[shs,Ld.sh,dataL,Sk.data,ha2]
              rw[skZ_data (fun e=>by rw[List.eq_nil_of_length_eq_zero e];rfl),rowsZ_data arg_szdata];rfl
            rw[e5,hA2,hZ2,rowsZ_data fld_szdata,rowsZ_data fld_szdata] at h9
            simpa[fldsCells,Fld.cells,Typ.cells] using h9
          refine mapO4 rfl rfl ?_ (fzw B' fun p hp=>?_)
          · show (match B' b2 with | some cs=>(mapO (frz B' 11) cs).map fun ds=>D.ps ds d.flds.length | none=>none)=_
            rw[hid9]
            show Option.map (fun ds=>D.ps ds d.flds.length) (mapO (frz B' 11) _)=_
            rw[e9,hfd]
            simp
          · obtain⟨a1,a2,a3,a4⟩:=hvb p (hvw p hp)
            rw[hq _ a2 a3 a1 (hm3 p hp),a4]
      · have hg2:=hKd.1.2.1.2 g2 (by rw[hfd];simp)
        refine⟨⟨hKd.1.1,⟨by have:=hLd.1;rw[hfd] at this;simp at this ⊢;omega,fun x hx=>?_⟩,hKd.1.2.2⟩,hKd.2⟩
        rcases List.mem_append.1 hx with hx | hx
        · exact hKd.1.2.1.2 x (by rw[hfd];exact List.mem_append_left _ hx)
        · rcases List.mem_cons.1 hx with rfl | hx
          · exact⟨hg2.1,hg2.2.1,htl⟩
          · exact hKd.1.2.1.2 x (by rw[hfd];exact List.mem_append_right _ (List.mem_cons_of_mem _ hx))
      · simp[n9,show ¬ R=b2 from fun e=>n9 e.symm]
        exact S5_rd
      · intro y k1 k2
        have z3:¬ y=b2:=by have:=hvf2.2.1;omega
        simp[z3]
  · simp[h,S1_n,S1_gl,S1_md,R_S1,n1,n2,hbb,S2_n,S2_gl,S2_md,S2_rd,b_S2,hAl2,f1,f2,f3,hdr,htk,hd2,hd3,S3_n,S3_gl,S3_md,S3_rd,b_S3]
    rcases ld_z hf with ⟨rfl,hf0⟩ | ⟨b2,fc,rfl,hfc,hf0⟩
    · simp[h,S1_n,S1_gl,S1_md,R_S1,n1,n2,hbb,S2_n,S2_gl,S2_md,S2_rd,b_S2,hAl2,f1,f2,f3,hdr,htk,hd2,hd3,S3_n,S3_gl,S3_md,S3_rd,b_S3]
      refine⟨schemaL,LstF.g ((lst0 S3 S3_o).keep (fun _ _ _=>rfl) (Nat.le_refl _) (by omega)),schema_k,by decide,p+2,gotE S3 _ (p+2) S3_o S3_t rfl rfl rfl (by simp;omega) S3_rd (fun _ _ _=>rfl) rfl,by omega⟩
    · have hfp:0<d.flds.length:=by omega
      have hvf2:=hvb (b2,svs fc) (hvf _ (by simp[Ld.vars]))
      have b2_S3:=S3_o b2 hvf2.2.2.1 (by have:=hvf2.2.1;omega)
      rw[← hSr,hvf2.2.2.2] at b2_S3
      have n7:¬ b=b2:=fun e=>hvf2.1 e.symm
      have n8:¬ b2=b:=fun e=>hvf2.1 e
      have n9:¬ b2=R:=by have:=hvf2.2.1;omega
      simp[h,S1_n,S1_gl,S1_md,R_S1,n1,n2,hbb,S2_n,S2_gl,S2_md,S2_rd,b_S2,hAl2,f1,f2,f3,hdr,htk,hd2,hd3,S3_n,S3_gl,S3_md,S3_rd,b_S3,hfp,b2_S3,n7,n8,n9]
      refine⟨DrawT.mk (by kernel_rfl),?_⟩
      obtain⟨r4,S4,hL4,q4,hG4⟩:=x_pick ((((((S3.adv 2).adv 2).adv 2).adv 2).adv 6).adv 13) R c (p+2) d.flds.length (by first | omega | (simp;omega)) (by simp[h,S1_n,S1_gl,S1_md,R_S1,n1,n2,hbb,S2_n,S2_gl,S2_md,S2_rd,b_S2,hAl2,f1,f2,f3,hdr,htk,hd2,hd3,S3_n,S3_gl,S3_md,S3_rd,b_S3,hfp,b2_S3,n7,n8,n9]) hc (by omega) (by omega) (by omega)
      subst q4
      have hi5:=pickK_lt c (p+2) d.flds.length (by omega)
      generalize pickK c (p+2) d.flds.length=i at hi5 hL4
      obtain⟨A2,a2,T2,Z2,LA2,g2,LZ2,rfl,hL2,hA2k,hA2l,hA2,hZ2,ha2,hT2⟩:=flds_split hfc hi5
      obtain⟨ta,tb,tc,rfl⟩:=three_of (by rw[← shs_len,hT2];simp:T2.length=3)
      obtain⟨x1,x2,x3⟩:=z_one ha2
      have hA2s:(svs A2).length=i*5:=by rw[svs_len];exact hA2l
      have hdr2:=fun j Y=>drop_add hA2s j Y
      have htk2:=fun j Y=>take_add hA2s j Y
      have hd5:∀ Y:List SV,(svs A2++Y).drop (i*5+2+3)=Y.drop 5:=fun Y=>drop_add hA2s 5 Y
      simp only[svs_app,svs_cons,Ld.sv_d,svs_nil,List.cons_append,List.nil_append] at b2_S3
      have S4_n:=hG4.n
      try simp[h,S1_n,S1_gl,S1_md,R_S1,n1,n2,hbb,S2_n,S2_gl,S2_md,S2_rd,b_S2,hAl2,f1,f2,f3,hdr,htk,hd2,hd3,S3_n,S3_gl,S3_md,S3_rd,b_S3,hfp,b2_S3,n7,n8,n9] at S4_n
      have S4_gl:=hG4.gl
      try simp[h,S1_n,S1_gl,S1_md,R_S1,n1,n2,hbb,S2_n,S2_gl,S2_md,S2_rd,b_S2,hAl2,f1,f2,f3,hdr,htk,hd2,hd3,S3_n,S3_gl,S3_md,S3_rd,b_S3,hfp,b2_S3,n7,n8,n9,S4_n] at S4_gl
      have S4_md:=hG4.md
      try simp[h,S1_n,S1_gl,S1_md,R_S1,n1,n2,hbb,S2_n,S2_gl,S2_md,S2_rd,b_S2,hAl2,f1,f2,f3,hdr,htk,hd2,hd3,S3_n,S3_gl,S3_md,S3_rd,b_S3,hfp,b2_S3,n7,n8,n9,S4_n,S4_gl] at S4_md
      have S4_nx:=hG4.nx
      try simp[h,S1_n,S1_gl,S1_md,R_S1,n1,n2,hbb,S2_n,S2_gl,S2_md,S2_rd,b_S2,hAl2,f1,f2,f3,hdr,htk,hd2,hd3,S3_n,S3_gl,S3_md,S3_rd,b_S3,hfp,b2_S3,n7,n8,n9,S4_n,S4_gl,S4_md] at S4_nx
      have S4_rd:=hG4.rd
      have b_S4:=hG4.old b (by first | omega | (simp;omega)) (by omega)
      try simp[h,S1_n,S1_gl,S1_md,R_S1,n1,n2,hbb,S2_n,S2_gl,S2_md,S2_rd,b_S2,hAl2,f1,f2,f3,hdr,htk,hd2,hd3,S3_n,S3_gl,S3_md,S3_rd,b_S3,hfp,b2_S3,n7,n8,n9,S4_n,S4_gl,S4_md,S4_rd] at b_S4
      have b2_S4:=hG4.old b2 (by first | omega | (simp;omega)) (by omega)
      try simp[h,S1_n,S1_gl,S1_md,R_S1,n1,n2,hbb,S2_n,S2_gl,S2_md,S2_rd,b_S2,hAl2,f1,f2,f3,hdr,htk,hd2,hd3,S3_n,S3_gl,S3_md,S3_rd,b_S3,hfp,b2_S3,n7,n8,n9,S4_n,S4_gl,S4_md,S4_rd,b_S4] at b2_S4
      have S4_o:∀ y,y<N→y≠R→S4.B y=Sr.B y:=fun y k1 k2=>by
        have a1:=hG4.old y (by first | omega | (simp;omega)) k2
        try simp[] at a1
        exact a1.trans (S3_o y k1 k2)
      have S4_t:∀ y,y<N→S4.T y=Sr.T y:=fun y k1=>by
        have a1:=hG4.T y (by first | omega | (simp;omega))
        try simp at a1
        exact a1.trans (S3_t y k1)
      refine CallT.calm [((3,5),10)] (by kernel_rfl) (by kernel_rfl) hL4 ?_ ?_
      · simp[h,S1_n,S1_gl,S1_md,R_S1,n1,n2,hbb,S2_n,S2_gl,S2_md,S2_rd,b_S2,hAl2,f1,f2,f3,hdr,htk,hd2,hd3,S3_n,S3_gl,S3_md,S3_rd,b_S3,hfp,b2_S3,n7,n8,n9,S4_n,S4_gl,S4_md,S4_rd,b_S4,b2_S4,Eh.e,refOf]
      have hi5':(i:Int)<d.flds.length:=by omega
      obtain⟨hm1,hm2,hm3⟩:=vars_mid hnd.2
      have hfd:d.flds=LA2++g2::LZ2:=hL2
      have hZ2l:i*5+(Z2.length+5)=d.flds.length*5:=by
        have:=congrArg List.length hfc
        simp only[shs_len,rowsZ_len (fun x=>by simp:∀ x:Fld,(Fld.sz x).length=5)] at this
        simp at this
        omega
      have fin3:∀ (S':St) (hi:Nat) (NEW:SV) (args':List Arg),N≤hi→S'.B b=some (svs A++([.d (dS d.name), .d (dI d.kind), .sk b2 d.flds.length 5,w0.sv]++svs Z))→S'.B b2=some (svs A2++(.d (dS g2.name)::NEW::ta.sv::tb.sv::tc.sv::svs Z2))→(∀ y,y<N→y≠R→y≠b2→S'.B y=S1.B y) →
          (∀ B':Nat→Option (List SV),(∀ x,S0.nx≤x→x<hi→x≠b→B' x=S'.B x)→(∀ p∈varsL (A2++([Ld.d (.string g2.name),a2]++([ta,tb,tc]++Z2))),B' p.1=some p.2)→frz B' 11 NEW=some (argsD args')) →
          LstF S' S0.nx hi (.sk b 7 4) (LA++⟨d.name,d.kind,LA2++⟨g2.name,args',g2.ty⟩::LZ2,d.words⟩::LZ):=fun S' hi NEW args' w1 w2 w3 w4 w5=>by
        refine fin S' hi [.d (dS d.name), .d (dI d.kind), .sk b2 d.flds.length 5,w0.sv] ⟨d.name,d.kind,LA2++⟨g2.name,args',g2.ty⟩::LZ2,d.words⟩ w1 w2 (fun p hp=>?_) (fun B' hB'=>?_)
        · obtain⟨a1,a2,a3,a4⟩:=hvb p (hvAZ p hp)
          exact w4 _ a3 (by omega) (hm1 p hp)
        · have hq:∀ x,S0.nx≤x→x<N→x≠b→x≠b2→B' x=S1.B x:=fun x k1 k2 k3 k4=>(hB' x k1 (by omega) k3).trans (w4 x k2 (by omega) k4)
          have hid9:=hB' b2 hvf2.2.1 (by have:=hvf2.2.2.1;omega) n8
          rw[w3] at hid9
          have hv9:∀ p∈varsL (A2++([Ld.d (.string g2.name),a2]++([ta,tb,tc]++Z2))),B' p.1=some p.2:=fun p hp=>by
            obtain⟨a1,a2,a3,a4⟩:=hvb p (hvf p (by simp only[Ld.vars];exact List.mem_cons_of_mem _ hp))
            rw[hq _ a2 a3 a1 (hm2 p hp),a4]
          have hdp:depL (shs (A2++([Ld.d (.string g2.name),a2]++([ta,tb,tc]++Z2))))<11:=by
            have:=hdep
            simp only[Ld.sh,Sk.dep] at this
            omega
          rw[shs_app,depL_app,shs_app,depL_app,shs_app,depL_app] at hdp
          have r1:=(frz_lds (B:=B') A2 11 (fun p hp=>hv9 p (by rw[varsL_app];exact List.mem_append_left _ hp)) (by omega)).1
          have r2:=(frz_lds (B:=B') [ta,tb,tc] 11 (fun p hp=>hv9 p (by rw[varsL_app];exact List.mem_append_right _ (by rw[varsL_app];exact List.mem_append_right _ (by rw[varsL_app];exact List.mem_append_left _ hp)))) (by omega)).1
          have r3:=(frz_lds (B:=B') Z2 11 (fun p hp=>hv9 p (by rw[varsL_app];exact List.mem_append_right _ (by rw[varsL_app];exact List.mem_append_right _ (by rw[varsL_app];exact List.mem_append_right _ hp)))) (by omega)).1
          have r4:mapO (frz B' 11) [SV.d (dS g2.name),NEW]=some [dS g2.name,argsD args']:=by
            have:=w5 B' hB' hv9
            simp[mapO,this]
          have e9:mapO (frz B' 11) (svs A2++(.d (dS g2.name)::NEW::ta.sv::tb.sv::tc.sv::svs Z2))=some (fldsCells (LA2++⟨g2.name,args',g2.ty⟩::LZ2)):=by
            have h9:=mapO_app r1 (mapO_app r4 (mapO_app r2 r3))
            rw[hT2,typ_szdata,hA2,hZ2,rowsZ_data fld_szdata,rowsZ_data fld_szdata] at h9
            simpa[fldsCells,Fld.cells] using h9
          refine mapO4 rfl rfl ?_ (fzw B' fun p hp=>?_)
          · show (match B' b2 with | some cs=>(mapO (frz B' 11) cs).map fun ds=>D.ps ds d.flds.length | none=>none)=_
            rw[hid9]
            show Option.map (fun ds=>D.ps ds d.flds.length) (mapO (frz B' 11) _)=_
            rw[e9,hfd]
            simp
          · obtain⟨a1,a2,a3,a4⟩:=hvb p (hvw p hp)
            rw[hq _ a2 a3 a1 (hm3 p hp),a4]
      have kfin:∀ args':List Arg,args'.length≤9→(∀ x∈args',ArgSm x)→DefK ⟨d.name,d.kind,LA2++⟨g2.name,args',g2.ty⟩::LZ2,d.words⟩:=fun args' e1 e2=>by
        have hg2:=hKd.1.2.1.2 g2 (by rw[hfd];simp)
        refine⟨⟨hKd.1.1,⟨by have:=hLd.1;rw[hfd] at this;simp at this ⊢;omega,fun x hx=>?_⟩,hKd.1.2.2⟩,hKd.2⟩
        rcases List.mem_append.1 hx with hx | hx
        · exact hKd.1.2.1.2 x (by rw[hfd];exact List.mem_append_left _ hx)
        · rcases List.mem_cons.1 hx with rfl | hx
          · exact⟨hg2.1,⟨by show args'.length≤_;omega,e2⟩,hg2.2.2⟩
          · exact hKd.1.2.1.2 x (by rw[hfd];exact List.mem_append_right _ (List.mem_cons_of_mem _ hx))
      have hg2:=hKd.1.2.1.2 g2 (by rw[show d.flds=LA2++g2::LZ2 from hL2];simp)
      have hga:=hLd.2 g2 (by rw[show d.flds=LA2++g2::LZ2 from hL2];simp)
      rcases ld_z ha2 with ⟨rfl,ha0⟩ | ⟨b3,ac,rfl,hac,ha0⟩
      case' inr =>
        have hv3:=hvb (b3,svs ac) (hvf _ (by simp[Ld.vars,varsL_app,varsL]))
        have b3_S4:=S4_o b3 hv3.2.2.1 (by have:=hv3.2.1;omega)
        rw[← hSr,hv3.2.2.2] at b3_S4
        have hacl:ac.length=g2.args.length*10:=by rw[← shs_len,hac,rowsZ_len (fun x=>by simp:∀ x:Arg,(Arg.sz x).length=10)]
        have htk3:List.take (g2.args.length*10) (svs ac)=svs ac:=List.take_of_length_le (by simp;omega)
        have hab3:appBound 0 g2.args.length 152:=by unfold appBound;omega
        have hpos:0<g2.args.length:=by omega
        simp[h,S1_n,S1_gl,S1_md,R_S1,n1,n2,hbb,S2_n,S2_gl,S2_md,S2_rd,b_S2,hAl2,f1,f2,f3,hdr,htk,hd2,hd3,S3_n,S3_gl,S3_md,S3_rd,b_S3,hfp,b2_S3,n7,n8,n9,S4_n,S4_gl,S4_md,S4_rd,b_S4,b2_S4,x1,x2,x3,hA2s,hdr2,htk2,hd5,b3_S4,hacl,htk3,hab3,hpos,hi5',appV,onlyIf]
        obtain⟨i3,hi3⟩:∃ i3,S4.nx+6=i3:=⟨_,rfl⟩
        rw[hi3]
        have j1:¬ R=i3:=by omega
        have j2:¬ i3=R:=by omega
        have j3:¬ b2=i3:=by have:=hvf2.2.2.1;omega
        have j4:¬ i3=b2:=by have:=hvf2.2.2.1;omega
        have j5:¬ b=i3:=by omega
        have j6:¬ i3=b:=by omega
        have hb2N:b2<N:=hvf2.2.2.1
        have hab4:appBound g2.args.length 1 152:=by unfold appBound;omega
        refine CallT.x (x_of _ R c (p+3) _ [⟨#[120]⟩,⟨#[102,105,114,115,116]⟩,⟨#[105,100]⟩] (.inl rfl) (by simp) (by simp) (by first | omega | (simp;omega)) (by simp[h,S1_n,S1_gl,S1_md,R_S1,n1,n2,hbb,S2_n,S2_gl,S2_md,S2_rd,b_S2,hAl2,f1,f2,f3,hdr,htk,hd2,hd3,S3_n,S3_gl,S3_md,S3_rd,b_S3,hfp,b2_S3,n7,n8,n9,S4_n,S4_gl,S4_md,S4_rd,b_S4,b2_S4,x1,x2,x3,hA2s,hdr2,htk2,hd5,b3_S4,hacl,htk3,hab3,hpos,j1,j2,j3,j4,j5,j6,hab4]) hc (by omega)) rfl (fun r5 S5 h5=>?_)
        obtain⟨q5,hG5⟩:=h5
        subst q5
        have S5_n:=hG5.n
        try simp[h,S1_n,S1_gl,S1_md,R_S1,n1,n2,hbb,S2_n,S2_gl,S2_md,S2_rd,b_S2,hAl2,f1,f2,f3,hdr,htk,hd2,hd3,S3_n,S3_gl,S3_md,S3_rd,b_S3,hfp,b2_S3,n7,n8,n9,S4_n,S4_gl,S4_md,S4_rd,b_S4,b2_S4,x1,x2,x3,hA2s,hdr2,htk2,hd5,b3_S4,hacl,htk3,hab3,hpos,j1,j2,j3,j4,j5,j6,hab4] at S5_n
        have S5_gl:=hG5.gl
        try simp[h,S1_n,S1_gl,S1_md,R_S1,n1,n2,hbb,S2_n,S2_gl,S2_md,S2_rd,b_S2,hAl2,f1,f2,f3,hdr,htk,hd2,hd3,S3_n,S3_gl,S3_md,S3_rd,b_S3,hfp,b2_S3,n7,n8,n9,S4_n,S4_gl,S4_md,S4_rd,b_S4,b2_S4,x1,x2,x3,hA2s,hdr2,htk2,hd5,b3_S4,hacl,htk3,hab3,hpos,j1,j2,j3,j4,j5,j6,hab4,S5_n] at S5_gl
        have S5_md:=hG5.md
        try simp[h,S1_n,S1_gl,S1_md,R_S1,n1,n2,hbb,S2_n,S2_gl,S2_md,S2_rd,b_S2,hAl2,f1,f2,f3,hdr,htk,hd2,hd3,S3_n,S3_gl,S3_md,S3_rd,b_S3,hfp,b2_S3,n7,n8,n9,S4_n,S4_gl,S4_md,S4_rd,b_S4,b2_S4,x1,x2,x3,hA2s,hdr2,htk2,hd5,b3_S4,hacl,htk3,hab3,hpos,j1,j2,j3,j4,j5,j6,hab4,S5_n,S5_gl] at S5_md
        have S5_nx:=hG5.nx
        try simp[h,S1_n,S1_gl,S1_md,R_S1,n1,n2,hbb,S2_n,S2_gl,S2_md,S2_rd,b_S2,hAl2,f1,f2,f3,hdr,htk,hd2,hd3,S3_n,S3_gl,S3_md,S3_rd,b_S3,hfp,b2_S3,n7,n8,n9,S4_n,S4_gl,S4_md,S4_rd,b_S4,b2_S4,x1,x2,x3,hA2s,hdr2,htk2,hd5,b3_S4,hacl,htk3,hab3,hpos,j1,j2,j3,j4,j5,j6,hab4,S5_n,S5_gl,S5_md] at S5_nx
        have S5_rd:=hG5.rd
        have b_S5:=hG5.old b (by first | omega | (simp;omega)) (by omega)
        try simp[h,S1_n,S1_gl,S1_md,R_S1,n1,n2,hbb,S2_n,S2_gl,S2_md,S2_rd,b_S2,hAl2,f1,f2,f3,hdr,htk,hd2,hd3,S3_n,S3_gl,S3_md,S3_rd,b_S3,hfp,b2_S3,n7,n8,n9,S4_n,S4_gl,S4_md,S4_rd,b_S4,b2_S4,x1,x2,x3,hA2s,hdr2,htk2,hd5,b3_S4,hacl,htk3,hab3,hpos,j1,j2,j3,j4,j5,j6,hab4,S5_n,S5_gl,S5_md,S5_rd] at b_S5
        have b2_S5:=hG5.old b2 (by first | omega | (simp;omega)) (by omega)
        try simp[h,S1_n,S1_gl,S1_md,R_S1,n1,n2,hbb,S2_n,S2_gl,S2_md,S2_rd,b_S2,hAl2,f1,f2,f3,hdr,htk,hd2,hd3,S3_n,S3_gl,S3_md,S3_rd,b_S3,hfp,b2_S3,n7,n8,n9,S4_n,S4_gl,S4_md,S4_rd,b_S4,b2_S4,x1,x2,x3,hA2s,hdr2,htk2,hd5,b3_S4,hacl,htk3,hab3,hpos,j1,j2,j3,j4,j5,j6,hab4,S5_n,S5_gl,S5_md,S5_rd,b_S5] at b2_S5
        have i3_S5:=hG5.old i3 (by first | omega | (simp;omega)) (by omega)
        try simp[h,S1_n,S1_gl,S1_md,R_S1,n1,n2,hbb,S2_n,S2_gl,S2_md,S2_rd,b_S2,hAl2,f1,f2,f3,hdr,htk,hd2,hd3,S3_n,S3_gl,S3_md,S3_rd,b_S3,hfp,b2_S3,n7,n8,n9,S4_n,S4_gl,S4_md,S4_rd,b_S4,b2_S4,x1,x2,x3,hA2s,hdr2,htk2,hd5,b3_S4,hacl,htk3,hab3,hpos,j1,j2,j3,j4,j5,j6,hab4,S5_n,S5_gl,S5_md,S5_rd,b_S5,b2_S5] at i3_S5
        have S5_o:∀ y,y<N→y≠R→S5.B y=Sr.B y:=fun y k1 k2=>by
          have a1:=hG5.old y (by first | omega | (simp;omega)) k2
          have y1:¬ y=i3:=by omega
          try simp[y1] at a1
          exact a1.trans (S4_o y k1 k2)
        have S5_t:∀ y,y<N→S5.T y=Sr.T y:=fun y k1=>by
          have a1:=hG5.T y (by first | omega | (simp;omega))
          try simp at a1
          exact a1.trans (S4_t y k1)
        have hnm:=ofK_mem c (p+3) (l:=[⟨#[120]⟩,⟨#[102,105,114,115,116]⟩,⟨#[105,100]⟩]) (by simp)
        generalize ofK c (p+3) _=nm at hnm
        have hnm2:nm.size≤40:=by
          simp only[List.mem_cons,List.not_mem_nil,or_false] at hnm
          rcases hnm with rfl | rfl | rfl<;>decide
        simp[h,S1_n,S1_gl,S1_md,R_S1,n1,n2,hbb,S2_n,S2_gl,S2_md,S2_rd,b_S2,hAl2,f1,f2,f3,hdr,htk,hd2,hd3,S3_n,S3_gl,S3_md,S3_rd,b_S3,hfp,b2_S3,n7,n8,n9,S4_n,S4_gl,S4_md,S4_rd,b_S4,b2_S4,x1,x2,x3,hA2s,hdr2,htk2,hd5,b3_S4,hacl,htk3,hab3,hpos,j1,j2,j3,j4,j5,j6,hab4,S5_n,S5_gl,S5_md,S5_rd,b_S5,b2_S5,i3_S5]
        refine CallT.x (l_type13 _ R c (p+4) _ [⟨#[73,110,116]⟩,⟨#[73,110]⟩,⟨#[80,101,116]⟩,⟨#[75,105,110,100]⟩] (.inl rfl) (by simp) (by simp) (by first | omega | (simp;omega)) (by simp[h,S1_n,S1_gl,S1_md,R_S1,n1,n2,hbb,S2_n,S2_gl,S2_md,S2_rd,b_S2,hAl2,f1,f2,f3,hdr,htk,hd2,hd3,S3_n,S3_gl,S3_md,S3_rd,b_S3,hfp,b2_S3,n7,n8,n9,S4_n,S4_gl,S4_md,S4_rd,b_S4,b2_S4,x1,x2,x3,hA2s,hdr2,htk2,hd5,b3_S4,hacl,htk3,hab3,hpos,j1,j2,j3,j4,j5,j6,hab4,S5_n,S5_gl,S5_md,S5_rd,b_S5,b2_S5,i3_S5]) hc (by omega)) rfl (fun r6 S6 h6=>?_)
        obtain⟨t6,k6,q6,hr6,hW6,hk6,hG6,hq6⟩:=h6
        subst hr6
        have S6_n:=hG6.n
        try simp[h,S1_n,S1_gl,S1_md,R_S1,n1,n2,hbb,S2_n,S2_gl,S2_md,S2_rd,b_S2,hAl2,f1,f2,f3,hdr,htk,hd2,hd3,S3_n,S3_gl,S3_md,S3_rd,b_S3,hfp,b2_S3,n7,n8,n9,S4_n,S4_gl,S4_md,S4_rd,b_S4,b2_S4,x1,x2,x3,hA2s,hdr2,htk2,hd5,b3_S4,hacl,htk3,hab3,hpos,j1,j2,j3,j4,j5,j6,hab4,S5_n,S5_gl,S5_md,S5_rd,b_S5,b2_S5,i3_S5] at S6_n
        have S6_gl:=hG6.gl
        try simp[h,S1_n,S1_gl,S1_md,R_S1,n1,n2,hbb,S2_n,S2_gl,S2_md,S2_rd,b_S2,hAl2,f1,f2,f3,hdr,htk,hd2,hd3,S3_n,S3_gl,S3_md,S3_rd,b_S3,hfp,b2_S3,n7,n8,n9,S4_n,S4_gl,S4_md,S4_rd,b_S4,b2_S4,x1,x2,x3,hA2s,hdr2,htk2,hd5,b3_S4,hacl,htk3,hab3,hpos,j1,j2,j3,j4,j5,j6,hab4,S5_n,S5_gl,S5_md,S5_rd,b_S5,b2_S5,i3_S5,S6_n] at S6_gl
        have S6_md:=hG6.md
        try simp[h,S1_n,S1_gl,S1_md,R_S1,n1,n2,hbb,S2_n,S2_gl,S2_md,S2_rd,b_S2,hAl2,f1,f2,f3,hdr,htk,hd2,hd3,S3_n,S3_gl,S3_md,S3_rd,b_S3,hfp,b2_S3,n7,n8,n9,S4_n,S4_gl,S4_md,S4_rd,b_S4,b2_S4,x1,x2,x3,hA2s,hdr2,htk2,hd5,b3_S4,hacl,htk3,hab3,hpos,j1,j2,j3,j4,j5,j6,hab4,S5_n,S5_gl,S5_md,S5_rd,b_S5,b2_S5,i3_S5,S6_n,S6_gl] at S6_md
        have S6_nx:=hG6.nx
        try simp[h,S1_n,S1_gl,S1_md,R_S1,n1,n2,hbb,S2_n,S2_gl,S2_md,S2_rd,b_S2,hAl2,f1,f2,f3,hdr,htk,hd2,hd3,S3_n,S3_gl,S3_md,S3_rd,b_S3,hfp,b2_S3,n7,n8,n9,S4_n,S4_gl,S4_md,S4_rd,b_S4,b2_S4,x1,x2,x3,hA2s,hdr2,htk2,hd5,b3_S4,hacl,htk3,hab3,hpos,j1,j2,j3,j4,j5,j6,hab4,S5_n,S5_gl,S5_md,S5_rd,b_S5,b2_S5,i3_S5,S6_n,S6_gl,S6_md] at S6_nx
        have S6_rd:=hG6.rd
        have b_S6:=hG6.old b (by first | omega | (simp;omega)) (by omega)
        try simp[h,S1_n,S1_gl,S1_md,R_S1,n1,n2,hbb,S2_n,S2_gl,S2_md,S2_rd,b_S2,hAl2,f1,f2,f3,hdr,htk,hd2,hd3,S3_n,S3_gl,S3_md,S3_rd,b_S3,hfp,b2_S3,n7,n8,n9,S4_n,S4_gl,S4_md,S4_rd,b_S4,b2_S4,x1,x2,x3,hA2s,hdr2,htk2,hd5,b3_S4,hacl,htk3,hab3,hpos,j1,j2,j3,j4,j5,j6,hab4,S5_n,S5_gl,S5_md,S5_rd,b_S5,b2_S5,i3_S5,S6_n,S6_gl,S6_md,S6_rd] at b_S6
        have b2_S6:=hG6.old b2 (by first | omega | (simp;omega)) (by omega)
        try simp[h,S1_n,S1_gl,S1_md,R_S1,n1,n2,hbb,S2_n,S2_gl,S2_md,S2_rd,b_S2,hAl2,f1,f2,f3,hdr,htk,hd2,hd3,S3_n,S3_gl,S3_md,S3_rd,b_S3,hfp,b2_S3,n7,n8,n9,S4_n,S4_gl,S4_md,S4_rd,b_S4,b2_S4,x1,x2,x3,hA2s,hdr2,htk2,hd5,b3_S4,hacl,htk3,hab3,hpos,j1,j2,j3,j4,j5,j6,hab4,S5_n,S5_gl,S5_md,S5_rd,b_S5,b2_S5,i3_S5,S6_n,S6_gl,S6_md,S6_rd,b_S6] at b2_S6
        have i3_S6:=hG6.old i3 (by first | omega | (simp;omega)) (by omega)
        try simp[h,S1_n,S1_gl,S1_md,R_S1,n1,n2,hbb,S2_n,S2_gl,S2_md,S2_rd,b_S2,hAl2,f1,f2,f3,hdr,htk,hd2,hd3,S3_n,S3_gl,S3_md,S3_rd,b_S3,hfp,b2_S3,n7,n8,n9,S4_n,S4_gl,S4_md,S4_rd,b_S4,b2_S4,x1,x2,x3,hA2s,hdr2,htk2,hd5,b3_S4,hacl,htk3,hab3,hpos,j1,j2,j3,j4,j5,j6,hab4,S5_n,S5_gl,S5_md,S5_rd,b_S5,b2_S5,i3_S5,S6_n,S6_gl,S6_md,S6_rd,b_S6,b2_S6] at i3_S6
        have S6_o:∀ y,y<N→y≠R→S6.B y=Sr.B y:=fun y k1 k2=>by
          have a1:=hG6.old y (by first | omega | (simp;omega)) k2
          have y1:¬ y=i3:=by omega
          try simp[y1] at a1
          exact a1.trans (S5_o y k1 k2)
        have S6_t:∀ y,y<N→S6.T y=Sr.T y:=fun y k1=>by
          have a1:=hG6.T y (by first | omega | (simp;omega))
          try simp at a1
          exact a1.trans (S5_t y k1)
        have htl:=hW6.tle (by simp;decide)
        obtain⟨s6,l6,m6⟩:=t6
        simp only[typV]
        simp[h,S1_n,S1_gl,S1_md,R_S1,n1,n2,hbb,S2_n,S2_gl,S2_md,S2_rd,b_S2,hAl2,f1,f2,f3,hdr,htk,hd2,hd3,S3_n,S3_gl,S3_md,S3_rd,b_S3,hfp,b2_S3,n7,n8,n9,S4_n,S4_gl,S4_md,S4_rd,b_S4,b2_S4,x1,x2,x3,hA2s,hdr2,htk2,hd5,b3_S4,hacl,htk3,hab3,hpos,j1,j2,j3,j4,j5,j6,hab4,S5_n,S5_gl,S5_md,S5_rd,b_S5,b2_S5,i3_S5,S6_n,S6_gl,S6_md,S6_rd,b_S6,b2_S6,i3_S6]
        refine CallT.x (x_pick _ R c q6 2 (by first | omega | (simp;omega)) (by simp[h,S1_n,S1_gl,S1_md,R_S1,n1,n2,hbb,S2_n,S2_gl,S2_md,S2_rd,b_S2,hAl2,f1,f2,f3,hdr,htk,hd2,hd3,S3_n,S3_gl,S3_md,S3_rd,b_S3,hfp,b2_S3,n7,n8,n9,S4_n,S4_gl,S4_md,S4_rd,b_S4,b2_S4,x1,x2,x3,hA2s,hdr2,htk2,hd5,b3_S4,hacl,htk3,hab3,hpos,j1,j2,j3,j4,j5,j6,hab4,S5_n,S5_gl,S5_md,S5_rd,b_S5,b2_S5,i3_S5,S6_n,S6_gl,S6_md,S6_rd,b_S6,b2_S6,i3_S6]) hc (by omega) (by omega) (by omega)) rfl (fun r7 S7 h7=>?_)
        obtain⟨q7,hG7⟩:=h7
        subst q7
        have S7_n:=hG7.n
        try simp[h,S1_n,S1_gl,S1_md,R_S1,n1,n2,hbb,S2_n,S2_gl,S2_md,S2_rd,b_S2,hAl2,f1,f2,f3,hdr,htk,hd2,hd3,S3_n,S3_gl,S3_md,S3_rd,b_S3,hfp,b2_S3,n7,n8,n9,S4_n,S4_gl,S4_md,S4_rd,b_S4,b2_S4,x1,x2,x3,hA2s,hdr2,htk2,hd5,b3_S4,hacl,htk3,hab3,hpos,j1,j2,j3,j4,j5,j6,hab4,S5_n,S5_gl,S5_md,S5_rd,b_S5,b2_S5,i3_S5,S6_n,S6_gl,S6_md,S6_rd,b_S6,b2_S6,i3_S6] at S7_n
        have S7_gl:=hG7.gl
        try simp[h,S1_n,S1_gl,S1_md,R_S1,n1,n2,hbb,S2_n,S2_gl,S2_md,S2_rd,b_S2,hAl2,f1,f2,f3,hdr,htk,hd2,hd3,S3_n,S3_gl,S3_md,S3_rd,b_S3,hfp,b2_S3,n7,n8,n9,S4_n,S4_gl,S4_md,S4_rd,b_S4,b2_S4,x1,x2,x3,hA2s,hdr2,htk2,hd5,b3_S4,hacl,htk3,hab3,hpos,j1,j2,j3,j4,j5,j6,hab4,S5_n,S5_gl,S5_md,S5_rd,b_S5,b2_S5,i3_S5,S6_n,S6_gl,S6_md,S6_rd,b_S6,b2_S6,i3_S6,S7_n] at S7_gl
        have S7_md:=hG7.md
        try simp[h,S1_n,S1_gl,S1_md,R_S1,n1,n2,hbb,S2_n,S2_gl,S2_md,S2_rd,b_S2,hAl2,f1,f2,f3,hdr,htk,hd2,hd3,S3_n,S3_gl,S3_md,S3_rd,b_S3,hfp,b2_S3,n7,n8,n9,S4_n,S4_gl,S4_md,S4_rd,b_S4,b2_S4,x1,x2,x3,hA2s,hdr2,htk2,hd5,b3_S4,hacl,htk3,hab3,hpos,j1,j2,j3,j4,j5,j6,hab4,S5_n,S5_gl,S5_md,S5_rd,b_S5,b2_S5,i3_S5,S6_n,S6_gl,S6_md,S6_rd,b_S6,b2_S6,i3_S6,S7_n,S7_gl] at S7_md
        have S7_nx:=hG7.nx
        try simp[h,S1_n,S1_gl,S1_md,R_S1,n1,n2,hbb,S2_n,S2_gl,S2_md,S2_rd,b_S2,hAl2,f1,f2,f3,hdr,htk,hd2,hd3,S3_n,S3_gl,S3_md,S3_rd,b_S3,hfp,b2_S3,n7,n8,n9,S4_n,S4_gl,S4_md,S4_rd,b_S4,b2_S4,x1,x2,x3,hA2s,hdr2,htk2,hd5,b3_S4,hacl,htk3,hab3,hpos,j1,j2,j3,j4,j5,j6,hab4,S5_n,S5_gl,S5_md,S5_rd,b_S5,b2_S5,i3_S5,S6_n,S6_gl,S6_md,S6_rd,b_S6,b2_S6,i3_S6,S7_n,S7_gl,S7_md] at S7_nx
        have S7_rd:=hG7.rd
        have b_S7:=hG7.old b (by first | omega | (simp;omega)) (by omega)
        try simp[h,S1_n,S1_gl,S1_md,R_S1,n1,n2,hbb,S2_n,S2_gl,S2_md,S2_rd,b_S2,hAl2,f1,f2,f3,hdr,htk,hd2,hd3,S3_n,S3_gl,S3_md,S3_rd,b_S3,hfp,b2_S3,n7,n8,n9,S4_n,S4_gl,S4_md,S4_rd,b_S4,b2_S4,x1,x2,x3,hA2s,hdr2,htk2,hd5,b3_S4,hacl,htk3,hab3,hpos,j1,j2,j3,j4,j5,j6,hab4,S5_n,S5_gl,S5_md,S5_rd,b_S5,b2_S5,i3_S5,S6_n,S6_gl,S6_md,S6_rd,b_S6,b2_S6,i3_S6,S7_n,S7_gl,S7_md,S7_rd] at b_S7
        have b2_S7:=hG7.old b2 (by first | omega | (simp;omega)) (by omega)
        try simp[h,S1_n,S1_gl,S1_md,R_S1,n1,n2,hbb,S2_n,S2_gl,S2_md,S2_rd,b_S2,hAl2,f1,f2,f3,hdr,htk,hd2,hd3,S3_n,S3_gl,S3_md,S3_rd,b_S3,hfp,b2_S3,n7,n8,n9,S4_n,S4_gl,S4_md,S4_rd,b_S4,b2_S4,x1,x2,x3,hA2s,hdr2,htk2,hd5,b3_S4,hacl,htk3,hab3,hpos,j1,j2,j3,j4,j5,j6,hab4,S5_n,S5_gl,S5_md,S5_rd,b_S5,b2_S5,i3_S5,S6_n,S6_gl,S6_md,S6_rd,b_S6,b2_S6,i3_S6,S7_n,S7_gl,S7_md,S7_rd,b_S7] at b2_S7
        have i3_S7:=hG7.old i3 (by first | omega | (simp;omega)) (by omega)
        try simp[h,S1_n,S1_gl,S1_md,R_S1,n1,n2,hbb,S2_n,S2_gl,S2_md,S2_rd,b_S2,hAl2,f1,f2,f3,hdr,htk,hd2,hd3,S3_n,S3_gl,S3_md,S3_rd,b_S3,hfp,b2_S3,n7,n8,n9,S4_n,S4_gl,S4_md,S4_rd,b_S4,b2_S4,x1,x2,x3,hA2s,hdr2,htk2,hd5,b3_S4,hacl,htk3,hab3,hpos,j1,j2,j3,j4,j5,j6,hab4,S5_n,S5_gl,S5_md,S5_rd,b_S5,b2_S5,i3_S5,S6_n,S6_gl,S6_md,S6_rd,b_S6,b2_S6,i3_S6,S7_n,S7_gl,S7_md,S7_rd,b_S7,b2_S7] at i3_S7
        have S7_o:∀ y,y<N→y≠R→S7.B y=Sr.B y:=fun y k1 k2=>by
          have a1:=hG7.old y (by first | omega | (simp;omega)) k2
          have y1:¬ y=i3:=by omega
          try simp[y1] at a1
          exact a1.trans (S6_o y k1 k2)
        have S7_t:∀ y,y<N→S7.T y=Sr.T y:=fun y k1=>by
          have a1:=hG7.T y (by first | omega | (simp;omega))
          try simp at a1
          exact a1.trans (S6_t y k1)
        simp[h,S1_n,S1_gl,S1_md,R_S1,n1,n2,hbb,S2_n,S2_gl,S2_md,S2_rd,b_S2,hAl2,f1,f2,f3,hdr,htk,hd2,hd3,S3_n,S3_gl,S3_md,S3_rd,b_S3,hfp,b2_S3,n7,n8,n9,S4_n,S4_gl,S4_md,S4_rd,b_S4,b2_S4,x1,x2,x3,hA2s,hdr2,htk2,hd5,b3_S4,hacl,htk3,hab3,hpos,j1,j2,j3,j4,j5,j6,hab4,S5_n,S5_gl,S5_md,S5_rd,b_S5,b2_S5,i3_S5,S6_n,S6_gl,S6_md,S6_rd,b_S6,b2_S6,i3_S6,S7_n,S7_gl,S7_md,S7_rd,b_S7,b2_S7,i3_S7]
        have hp2:pB 2=80:=rfl
        refine CallT.x (l_value13 c hc 2 _ R (q6+1) (by first | omega | (simp;omega)) (by simp[h,S1_n,S1_gl,S1_md,R_S1,n1,n2,hbb,S2_n,S2_gl,S2_md,S2_rd,b_S2,hAl2,f1,f2,f3,hdr,htk,hd2,hd3,S3_n,S3_gl,S3_md,S3_rd,b_S3,hfp,b2_S3,n7,n8,n9,S4_n,S4_gl,S4_md,S4_rd,b_S4,b2_S4,x1,x2,x3,hA2s,hdr2,htk2,hd5,b3_S4,hacl,htk3,hab3,hpos,j1,j2,j3,j4,j5,j6,hab4,S5_n,S5_gl,S5_md,S5_rd,b_S5,b2_S5,i3_S5,S6_n,S6_gl,S6_md,S6_rd,b_S6,b2_S6,i3_S6,S7_n,S7_gl,S7_md,S7_rd,b_S7,b2_S7,i3_S7]) (by omega) (by omega)) rfl (fun r8 S8 h8=>?_)
        obtain⟨v8,hv8,hvs8,q8,hG8,hq8⟩:=h8
        have S8_n:=hG8.n
        try simp[h,S1_n,S1_gl,S1_md,R_S1,n1,n2,hbb,S2_n,S2_gl,S2_md,S2_rd,b_S2,hAl2,f1,f2,f3,hdr,htk,hd2,hd3,S3_n,S3_gl,S3_md,S3_rd,b_S3,hfp,b2_S3,n7,n8,n9,S4_n,S4_gl,S4_md,S4_rd,b_S4,b2_S4,x1,x2,x3,hA2s,hdr2,htk2,hd5,b3_S4,hacl,htk3,hab3,hpos,j1,j2,j3,j4,j5,j6,hab4,S5_n,S5_gl,S5_md,S5_rd,b_S5,b2_S5,i3_S5,S6_n,S6_gl,S6_md,S6_rd,b_S6,b2_S6,i3_S6,S7_n,S7_gl,S7_md,S7_rd,b_S7,b2_S7,i3_S7] at S8_n
        have S8_gl:=hG8.gl
        try simp[h,S1_n,S1_gl,S1_md,R_S1,n1,n2,hbb,S2_n,S2_gl,S2_md,S2_rd,b_S2,hAl2,f1,f2,f3,hdr,htk,hd2,hd3,S3_n,S3_gl,S3_md,S3_rd,b_S3,hfp,b2_S3,n7,n8,n9,S4_n,S4_gl,S4_md,S4_rd,b_S4,b2_S4,x1,x2,x3,hA2s,hdr2,htk2,hd5,b3_S4,hacl,htk3,hab3,hpos,j1,j2,j3,j4,j5,j6,hab4,S5_n,S5_gl,S5_md,S5_rd,b_S5,b2_S5,i3_S5,S6_n,S6_gl,S6_md,S6_rd,b_S6,b2_S6,i3_S6,S7_n,S7_gl,S7_md,S7_rd,b_S7,b2_S7,i3_S7,S8_n] at S8_gl
        have S8_md:=hG8.md
        try simp[h,S1_n,S1_gl,S1_md,R_S1,n1,n2,hbb,S2_n,S2_gl,S2_md,S2_rd,b_S2,hAl2,f1,f2,f3,hdr,htk,hd2,hd3,S3_n,S3_gl,S3_md,S3_rd,b_S3,hfp,b2_S3,n7,n8,n9,S4_n,S4_gl,S4_md,S4_rd,b_S4,b2_S4,x1,x2,x3,hA2s,hdr2,htk2,hd5,b3_S4,hacl,htk3,hab3,hpos,j1,j2,j3,j4,j5,j6,hab4,S5_n,S5_gl,S5_md,S5_rd,b_S5,b2_S5,i3_S5,S6_n,S6_gl,S6_md,S6_rd,b_S6,b2_S6,i3_S6,S7_n,S7_gl,S7_md,S7_rd,b_S7,b2_S7,i3_S7,S8_n,S8_gl] at S8_md
        have S8_nx:=hG8.nx
        try simp[h,S1_n,S1_gl,S1_md,R_S1,n1,n2,hbb,S2_n,S2_gl,S2_md,S2_rd,b_S2,hAl2,f1,f2,f3,hdr,htk,hd2,hd3,S3_n,S3_gl,S3_md,S3_rd,b_S3,hfp,b2_S3,n7,n8,n9,S4_n,S4_gl,S4_md,S4_rd,b_S4,b2_S4,x1,x2,x3,hA2s,hdr2,htk2,hd5,b3_S4,hacl,htk3,hab3,hpos,j1,j2,j3,j4,j5,j6,hab4,S5_n,S5_gl,S5_md,S5_rd,b_S5,b2_S5,i3_S5,S6_n,S6_gl,S6_md,S6_rd,b_S6,b2_S6,i3_S6,S7_n,S7_gl,S7_md,S7_rd,b_S7,b2_S7,i3_S7,S8_n,S8_gl,S8_md] at S8_nx
        have S8_rd:=hG8.rd
        have b_S8:=hG8.old b (by first | omega | (simp;omega)) (by omega)
        try simp[h,S1_n,S1_gl,S1_md,R_S1,n1,n2,hbb,S2_n,S2_gl,S2_md,S2_rd,b_S2,hAl2,f1,f2,f3,hdr,htk,hd2,hd3,S3_n,S3_gl,S3_md,S3_rd,b_S3,hfp,b2_S3,n7,n8,n9,S4_n,S4_gl,S4_md,S4_rd,b_S4,b2_S4,x1,x2,x3,hA2s,hdr2,htk2,hd5,b3_S4,hacl,htk3,hab3,hpos,j1,j2,j3,j4,j5,j6,hab4,S5_n,S5_gl,S5_md,S5_rd,b_S5,b2_S5,i3_S5,S6_n,S6_gl,S6_md,S6_rd,b_S6,b2_S6,i3_S6,S7_n,S7_gl,S7_md,S7_rd,b_S7,b2_S7,i3_S7,S8_n,S8_gl,S8_md,S8_rd] at b_S8
        have b2_S8:=hG8.old b2 (by first | omega | (simp;omega)) (by omega)
        try simp[h,S1_n,S1_gl,S1_md,R_S1,n1,n2,hbb,S2_n,S2_gl,S2_md,S2_rd,b_S2,hAl2,f1,f2,f3,hdr,htk,hd2,hd3,S3_n,S3_gl,S3_md,S3_rd,b_S3,hfp,b2_S3,n7,n8,n9,S4_n,S4_gl,S4_md,S4_rd,b_S4,b2_S4,x1,x2,x3,hA2s,hdr2,htk2,hd5,b3_S4,hacl,htk3,hab3,hpos,j1,j2,j3,j4,j5,j6,hab4,S5_n,S5_gl,S5_md,S5_rd,b_S5,b2_S5,i3_S5,S6_n,S6_gl,S6_md,S6_rd,b_S6,b2_S6,i3_S6,S7_n,S7_gl,S7_md,S7_rd,b_S7,b2_S7,i3_S7,S8_n,S8_gl,S8_md,S8_rd,b_S8] at b2_S8
        have i3_S8:=hG8.old i3 (by first | omega | (simp;omega)) (by omega)
        try simp[h,S1_n,S1_gl,S1_md,R_S1,n1,n2,hbb,S2_n,S2_gl,S2_md,S2_rd,b_S2,hAl2,f1,f2,f3,hdr,htk,hd2,hd3,S3_n,S3_gl,S3_md,S3_rd,b_S3,hfp,b2_S3,n7,n8,n9,S4_n,S4_gl,S4_md,S4_rd,b_S4,b2_S4,x1,x2,x3,hA2s,hdr2,htk2,hd5,b3_S4,hacl,htk3,hab3,hpos,j1,j2,j3,j4,j5,j6,hab4,S5_n,S5_gl,S5_md,S5_rd,b_S5,b2_S5,i3_S5,S6_n,S6_gl,S6_md,S6_rd,b_S6,b2_S6,i3_S6,S7_n,S7_gl,S7_md,S7_rd,b_S7,b2_S7,i3_S7,S8_n,S8_gl,S8_md,S8_rd,b_S8,b2_S8] at i3_S8
        have S8_o:∀ y,y<N→y≠R→S8.B y=Sr.B y:=fun y k1 k2=>by
          have a1:=hG8.old y (by first | omega | (simp;omega)) k2
          have y1:¬ y=i3:=by omega
          try simp[y1] at a1
          exact a1.trans (S7_o y k1 k2)
        have S8_t:∀ y,y<N→S8.T y=Sr.T y:=fun y k1=>by
          have a1:=hG8.T y (by first | omega | (simp;omega))
          try simp at a1
          exact a1.trans (S7_t y k1)
        obtain⟨hX8,hY8⟩:=hv8
        obtain⟨u1,u2,u3⟩:=hX8.one
        obtain⟨u4,u5,u6⟩:=hY8.one
        have hxD:=hX8.toD
        have hyD:=hY8.toD
        have hab1:appBound 0 1 152:=by unfold appBound;omega
        simp[h,S1_n,S1_gl,S1_md,R_S1,n1,n2,hbb,S2_n,S2_gl,S2_md,S2_rd,b_S2,hAl2,f1,f2,f3,hdr,htk,hd2,hd3,S3_n,S3_gl,S3_md,S3_rd,b_S3,hfp,b2_S3,n7,n8,n9,S4_n,S4_gl,S4_md,S4_rd,b_S4,b2_S4,x1,x2,x3,hA2s,hdr2,htk2,hd5,b3_S4,hacl,htk3,hab3,hpos,j1,j2,j3,j4,j5,j6,hab4,S5_n,S5_gl,S5_md,S5_rd,b_S5,b2_S5,i3_S5,S6_n,S6_gl,S6_md,S6_rd,b_S6,b2_S6,i3_S6,S7_n,S7_gl,S7_md,S7_rd,b_S7,b2_S7,i3_S7,S8_n,S8_gl,S8_md,S8_rd,b_S8,b2_S8,i3_S8,u1,u2,u3,u4,u5,u6,hxD,hyD,hab1]
        rename_i kv mv sv lv nv Xv Yv
        obtain⟨i4,hi4⟩:∃ i4,S4.nx+20=i4:=⟨_,rfl⟩
        rw[hi4]
        have y1:¬ R=i4:=by omega
        have y3:¬ b2=i4:=by omega
        have y5:¬ b=i4:=by omega
        have y6:¬ i4=b:=by omega
        have y7:¬ i4=b2:=by omega
        have y8:¬ i4=i3:=by omega
        have y9:i*5+1+1≤i*5+(Z2.length+1+1+1+1+1):=by omega
        simp[h,S1_n,S1_gl,S1_md,R_S1,n1,n2,hbb,S2_n,S2_gl,S2_md,S2_rd,b_S2,hAl2,f1,f2,f3,hdr,htk,hd2,hd3,S3_n,S3_gl,S3_md,S3_rd,b_S3,hfp,b2_S3,n7,n8,n9,S4_n,S4_gl,S4_md,S4_rd,b_S4,b2_S4,x1,x2,x3,hA2s,hdr2,htk2,hd5,b3_S4,hacl,htk3,hab3,hpos,j1,j2,j3,j4,j5,j6,hab4,S5_n,S5_gl,S5_md,S5_rd,b_S5,b2_S5,i3_S5,S6_n,S6_gl,S6_md,S6_rd,b_S6,b2_S6,i3_S6,S7_n,S7_gl,S7_md,S7_rd,b_S7,b2_S7,i3_S7,S8_n,S8_gl,S8_md,S8_rd,b_S8,b2_S8,i3_S8,u1,u2,u3,u4,u5,u6,hxD,hyD,hab1,y1,y3,y5,y6,y7,y8,y9]
        have nRb2:¬ R=b2:=by have:=hvf2.2.1;omega
        refine⟨LA++⟨d.name,d.kind,LA2++⟨g2.name,g2.args++[⟨nm, .mk s6 l6 m6,decide (pickK c q6 2=0), .mk kv mv sv lv nv⟩],g2.ty⟩::LZ2,d.words⟩::LZ,LstF.g (fin3 _ _ (.sk i4 (g2.args.length+1) 10) _ (by omega) (by simp[h,S1_n,S1_gl,S1_md,R_S1,n1,n2,hbb,S2_n,S2_gl,S2_md,S2_rd,b_S2,hAl2,f1,f2,f3,hdr,htk,hd2,hd3,S3_n,S3_gl,S3_md,S3_rd,b_S3,hfp,b2_S3,n7,n8,n9,S4_n,S4_gl,S4_md,S4_rd,b_S4,b2_S4,x1,x2,x3,hA2s,hdr2,htk2,hd5,b3_S4,hacl,htk3,hab3,hpos,j1,j2,j3,j4,j5,j6,hab4,S5_n,S5_gl,S5_md,S5_rd,b_S5,b2_S5,i3_S5,S6_n,S6_gl,S6_md,S6_rd,b_S6,b2_S6,i3_S6,S7_n,S7_gl,S7_md,S7_rd,b_S7,b2_S7,i3_S7,S8_n,S8_gl,S8_md,S8_rd,b_S8,b2_S8,i3_S8,u1,u2,u3,u4,u5,u6,hxD,hyD,hab1,y1,y3,y5,y6,y7,y8]) ?_ (fun y k1 k2 k3=>?_) (fun B' hB' hv9=>?_)),k_mid hK0 (kfin _ (by simp;omega) ?_),by simp;omega,q8,gotT S8 _ q8 S8_o S8_t rfl rfl rfl (by simp;omega) ?_ ?_ ?_,by omega⟩
        · simp
          exact drop_add hA2s 2 _
        · have z3:¬ y=i4:=by omega
          have z4:¬ y=i3:=by omega
          simp[k3,z3,z4]
          exact (S8_o y k1 k2).trans (by rw[hSr])
        · have h4:=hB' i4 (by omega) (by first | omega | (simp;omega)) y6
          simp[y7] at h4
          have hdp:depL (shs ac)<10:=by
            have:=hdep
            simp only[Ld.sh,Sk.dep,shs_app,depL_app,shs,depL] at this
            omega
          have r1:=(frz_lds (B:=B') ac 10 (fun p hp=>hv9 p (by
            rw[varsL_app,varsL_app]
            simp[varsL,Ld.vars,hp])) hdp).1
          rw[hac,rowsZ_data arg_szdata] at r1
          have r2:mapO (frz B' 10) [SV.d (D.v (Value.string nm)),SV.d (dS s6),SV.d (D.ps (typsCells l6) l6.length),SV.d (dB m6),SV.d (D.v (Value.bool (decide (pickK c q6 2=0)))),SV.d (dI kv),SV.d (dI mv),SV.d (dS sv),SV.d (D.ps (valsCells lv) lv.length),SV.d (D.ps (List.map dS nv) nv.length)]=some (Arg.cells ⟨nm, .mk s6 l6 m6,decide (pickK c q6 2=0), .mk kv mv sv lv nv⟩):=by
            simp[mapO,frz,Arg.cells,Typ.cells,Val.cells]
          show (match B' i4 with | some cs=>(mapO (frz B' 10) cs).map fun ds=>D.ps ds (g2.args.length+1) | none=>none)=_
          rw[h4]
          show Option.map (fun ds=>D.ps ds (g2.args.length+1)) (mapO (frz B' 10) _)=_
          rw[mapO_app r1 r2]
          simp[argsCells]
        · intro x hx
          rcases List.mem_append.1 hx with hx | hx
          · exact hg2.2.1.2 x hx
          · rw[List.mem_singleton] at hx
            subst hx
            exact⟨by show nm.size≤_;omega,htl,hvs8⟩
        · simp[nRb2,y1,j1]
          exact S8_rd
        · intro y k1 k2
          have z3:¬ y=b2:=by have:=hvf2.2.1;omega
          have z4:¬ y=i4:=by omega
          have z5:¬ y=i3:=by omega
          simp[z3,z4,z5]
        · intro y k1;rfl
      case' inl =>
        simp[h,S1_n,S1_gl,S1_md,R_S1,n1,n2,hbb,S2_n,S2_gl,S2_md,S2_rd,b_S2,hAl2,f1,f2,f3,hdr,htk,hd2,hd3,S3_n,S3_gl,S3_md,S3_rd,b_S3,hfp,b2_S3,n7,n8,n9,S4_n,S4_gl,S4_md,S4_rd,b_S4,b2_S4,x1,x2,x3,hA2s,hdr2,htk2,hd5,hi5']
        have hb2N:b2<N:=hvf2.2.2.1
        refine CallT.x (x_of _ R c (p+3) _ [⟨#[120]⟩,⟨#[102,105,114,115,116]⟩,⟨#[105,100]⟩] (.inl rfl) (by simp) (by simp) (by first | omega | (simp;omega)) (by simp[h,S1_n,S1_gl,S1_md,R_S1,n1,n2,hbb,S2_n,S2_gl,S2_md,S2_rd,b_S2,hAl2,f1,f2,f3,hdr,htk,hd2,hd3,S3_n,S3_gl,S3_md,S3_rd,b_S3,hfp,b2_S3,n7,n8,n9,S4_n,S4_gl,S4_md,S4_rd,b_S4,b2_S4,x1,x2,x3,hA2s,hdr2,htk2,hd5]) hc (by omega)) rfl (fun r5 S5 h5=>?_)
        obtain⟨q5,hG5⟩:=h5
        subst q5
        have S5_n:=hG5.n
        try simp[h,S1_n,S1_gl,S1_md,R_S1,n1,n2,hbb,S2_n,S2_gl,S2_md,S2_rd,b_S2,hAl2,f1,f2,f3,hdr,htk,hd2,hd3,S3_n,S3_gl,S3_md,S3_rd,b_S3,hfp,b2_S3,n7,n8,n9,S4_n,S4_gl,S4_md,S4_rd,b_S4,b2_S4,x1,x2,x3,hA2s,hdr2,htk2,hd5] at S5_n
        have S5_gl:=hG5.gl
        try simp[h,S1_n,S1_gl,S1_md,R_S1,n1,n2,hbb,S2_n,S2_gl,S2_md,S2_rd,b_S2,hAl2,f1,f2,f3,hdr,htk,hd2,hd3,S3_n,S3_gl,S3_md,S3_rd,b_S3,hfp,b2_S3,n7,n8,n9,S4_n,S4_gl,S4_md,S4_rd,b_S4,b2_S4,x1,x2,x3,hA2s,hdr2,htk2,hd5,S5_n] at S5_gl
        have S5_md:=hG5.md
        try simp[h,S1_n,S1_gl,S1_md,R_S1,n1,n2,hbb,S2_n,S2_gl,S2_md,S2_rd,b_S2,hAl2,f1,f2,f3,hdr,htk,hd2,hd3,S3_n,S3_gl,S3_md,S3_rd,b_S3,hfp,b2_S3,n7,n8,n9,S4_n,S4_gl,S4_md,S4_rd,b_S4,b2_S4,x1,x2,x3,hA2s,hdr2,htk2,hd5,S5_n,S5_gl] at S5_md
        have S5_nx:=hG5.nx
        try simp[h,S1_n,S1_gl,S1_md,R_S1,n1,n2,hbb,S2_n,S2_gl,S2_md,S2_rd,b_S2,hAl2,f1,f2,f3,hdr,htk,hd2,hd3,S3_n,S3_gl,S3_md,S3_rd,b_S3,hfp,b2_S3,n7,n8,n9,S4_n,S4_gl,S4_md,S4_rd,b_S4,b2_S4,x1,x2,x3,hA2s,hdr2,htk2,hd5,S5_n,S5_gl,S5_md] at S5_nx
        have S5_rd:=hG5.rd
        have b_S5:=hG5.old b (by first | omega | (simp;omega)) (by omega)
        try simp[h,S1_n,S1_gl,S1_md,R_S1,n1,n2,hbb,S2_n,S2_gl,S2_md,S2_rd,b_S2,hAl2,f1,f2,f3,hdr,htk,hd2,hd3,S3_n,S3_gl,S3_md,S3_rd,b_S3,hfp,b2_S3,n7,n8,n9,S4_n,S4_gl,S4_md,S4_rd,b_S4,b2_S4,x1,x2,x3,hA2s,hdr2,htk2,hd5,S5_n,S5_gl,S5_md,S5_rd] at b_S5
        have b2_S5:=hG5.old b2 (by first | omega | (simp;omega)) (by omega)
        try simp[h,S1_n,S1_gl,S1_md,R_S1,n1,n2,hbb,S2_n,S2_gl,S2_md,S2_rd,b_S2,hAl2,f1,f2,f3,hdr,htk,hd2,hd3,S3_n,S3_gl,S3_md,S3_rd,b_S3,hfp,b2_S3,n7,n8,n9,S4_n,S4_gl,S4_md,S4_rd,b_S4,b2_S4,x1,x2,x3,hA2s,hdr2,htk2,hd5,S5_n,S5_gl,S5_md,S5_rd,b_S5] at b2_S5
        have S5_o:∀ y,y<N→y≠R→S5.B y=Sr.B y:=fun y k1 k2=>by
          have a1:=hG5.old y (by first | omega | (simp;omega)) k2
          try simp[] at a1
          exact a1.trans (S4_o y k1 k2)
        have S5_t:∀ y,y<N→S5.T y=Sr.T y:=fun y k1=>by
          have a1:=hG5.T y (by first | omega | (simp;omega))
          try simp at a1
          exact a1.trans (S4_t y k1)
        have hnm:=ofK_mem c (p+3) (l:=[⟨#[120]⟩,⟨#[102,105,114,115,116]⟩,⟨#[105,100]⟩]) (by simp)
        generalize ofK c (p+3) _=nm at hnm
        have hnm2:nm.size≤40:=by
          simp only[List.mem_cons,List.not_mem_nil,or_false] at hnm
          rcases hnm with rfl | rfl | rfl<;>decide
        simp[h,S1_n,S1_gl,S1_md,R_S1,n1,n2,hbb,S2_n,S2_gl,S2_md,S2_rd,b_S2,hAl2,f1,f2,f3,hdr,htk,hd2,hd3,S3_n,S3_gl,S3_md,S3_rd,b_S3,hfp,b2_S3,n7,n8,n9,S4_n,S4_gl,S4_md,S4_rd,b_S4,b2_S4,x1,x2,x3,hA2s,hdr2,htk2,hd5,S5_n,S5_gl,S5_md,S5_rd,b_S5,b2_S5]
        refine CallT.x (l_type13 _ R c (p+4) _ [⟨#[73,110,116]⟩,⟨#[73,110]⟩,⟨#[80,101,116]⟩,⟨#[75,105,110,100]⟩] (.inl rfl) (by simp) (by simp) (by first | omega | (simp;omega)) (by simp[h,S1_n,S1_gl,S1_md,R_S1,n1,n2,hbb,S2_n,S2_gl,S2_md,S2_rd,b_S2,hAl2,f1,f2,f3,hdr,htk,hd2,hd3,S3_n,S3_gl,S3_md,S3_rd,b_S3,hfp,b2_S3,n7,n8,n9,S4_n,S4_gl,S4_md,S4_rd,b_S4,b2_S4,x1,x2,x3,hA2s,hdr2,htk2,hd5,S5_n,S5_gl,S5_md,S5_rd,b_S5,b2_S5]) hc (by omega)) rfl (fun r6 S6 h6=>?_)
        obtain⟨t6,k6,q6,hr6,hW6,hk6,hG6,hq6⟩:=h6
        subst hr6
        have S6_n:=hG6.n
        try simp[h,S1_n,S1_gl,S1_md,R_S1,n1,n2,hbb,S2_n,S2_gl,S2_md,S2_rd,b_S2,hAl2,f1,f2,f3,hdr,htk,hd2,hd3,S3_n,S3_gl,S3_md,S3_rd,b_S3,hfp,b2_S3,n7,n8,n9,S4_n,S4_gl,S4_md,S4_rd,b_S4,b2_S4,x1,x2,x3,hA2s,hdr2,htk2,hd5,S5_n,S5_gl,S5_md,S5_rd,b_S5,b2_S5] at S6_n
        have S6_gl:=hG6.gl
        try simp[h,S1_n,S1_gl,S1_md,R_S1,n1,n2,hbb,S2_n,S2_gl,S2_md,S2_rd,b_S2,hAl2,f1,f2,f3,hdr,htk,hd2,hd3,S3_n,S3_gl,S3_md,S3_rd,b_S3,hfp,b2_S3,n7,n8,n9,S4_n,S4_gl,S4_md,S4_rd,b_S4,b2_S4,x1,x2,x3,hA2s,hdr2,htk2,hd5,S5_n,S5_gl,S5_md,S5_rd,b_S5,b2_S5,S6_n] at S6_gl
        have S6_md:=hG6.md
        try simp[h,S1_n,S1_gl,S1_md,R_S1,n1,n2,hbb,S2_n,S2_gl,S2_md,S2_rd,b_S2,hAl2,f1,f2,f3,hdr,htk,hd2,hd3,S3_n,S3_gl,S3_md,S3_rd,b_S3,hfp,b2_S3,n7,n8,n9,S4_n,S4_gl,S4_md,S4_rd,b_S4,b2_S4,x1,x2,x3,hA2s,hdr2,htk2,hd5,S5_n,S5_gl,S5_md,S5_rd,b_S5,b2_S5,S6_n,S6_gl] at S6_md
        have S6_nx:=hG6.nx
        try simp[h,S1_n,S1_gl,S1_md,R_S1,n1,n2,hbb,S2_n,S2_gl,S2_md,S2_rd,b_S2,hAl2,f1,f2,f3,hdr,htk,hd2,hd3,S3_n,S3_gl,S3_md,S3_rd,b_S3,hfp,b2_S3,n7,n8,n9,S4_n,S4_gl,S4_md,S4_rd,b_S4,b2_S4,x1,x2,x3,hA2s,hdr2,htk2,hd5,S5_n,S5_gl,S5_md,S5_rd,b_S5,b2_S5,S6_n,S6_gl,S6_md] at S6_nx
        have S6_rd:=hG6.rd
        have b_S6:=hG6.old b (by first | omega | (simp;omega)) (by omega)
        try simp[h,S1_n,S1_gl,S1_md,R_S1,n1,n2,hbb,S2_n,S2_gl,S2_md,S2_rd,b_S2,hAl2,f1,f2,f3,hdr,htk,hd2,hd3,S3_n,S3_gl,S3_md,S3_rd,b_S3,hfp,b2_S3,n7,n8,n9,S4_n,S4_gl,S4_md,S4_rd,b_S4,b2_S4,x1,x2,x3,hA2s,hdr2,htk2,hd5,S5_n,S5_gl,S5_md,S5_rd,b_S5,b2_S5,S6_n,S6_gl,S6_md,S6_rd] at b_S6
        have b2_S6:=hG6.old b2 (by first | omega | (simp;omega)) (by omega)
        try simp[h,S1_n,S1_gl,S1_md,R_S1,n1,n2,hbb,S2_n,S2_gl,S2_md,S2_rd,b_S2,hAl2,f1,f2,f3,hdr,htk,hd2,hd3,S3_n,S3_gl,S3_md,S3_rd,b_S3,hfp,b2_S3,n7,n8,n9,S4_n,S4_gl,S4_md,S4_rd,b_S4,b2_S4,x1,x2,x3,hA2s,hdr2,htk2,hd5,S5_n,S5_gl,S5_md,S5_rd,b_S5,b2_S5,S6_n,S6_gl,S6_md,S6_rd,b_S6] at b2_S6
        have S6_o:∀ y,y<N→y≠R→S6.B y=Sr.B y:=fun y k1 k2=>by
          have a1:=hG6.old y (by first | omega | (simp;omega)) k2
          try simp[] at a1
          exact a1.trans (S5_o y k1 k2)
        have S6_t:∀ y,y<N→S6.T y=Sr.T y:=fun y k1=>by
          have a1:=hG6.T y (by first | omega | (simp;omega))
          try simp at a1
          exact a1.trans (S5_t y k1)
        have htl:=hW6.tle (by simp;decide)
        obtain⟨s6,l6,m6⟩:=t6
        simp only[typV]
        simp[h,S1_n,S1_gl,S1_md,R_S1,n1,n2,hbb,S2_n,S2_gl,S2_md,S2_rd,b_S2,hAl2,f1,f2,f3,hdr,htk,hd2,hd3,S3_n,S3_gl,S3_md,S3_rd,b_S3,hfp,b2_S3,n7,n8,n9,S4_n,S4_gl,S4_md,S4_rd,b_S4,b2_S4,x1,x2,x3,hA2s,hdr2,htk2,hd5,S5_n,S5_gl,S5_md,S5_rd,b_S5,b2_S5,S6_n,S6_gl,S6_md,S6_rd,b_S6,b2_S6]
        refine CallT.x (x_pick _ R c q6 2 (by first | omega | (simp;omega)) (by simp[h,S1_n,S1_gl,S1_md,R_S1,n1,n2,hbb,S2_n,S2_gl,S2_md,S2_rd,b_S2,hAl2,f1,f2,f3,hdr,htk,hd2,hd3,S3_n,S3_gl,S3_md,S3_rd,b_S3,hfp,b2_S3,n7,n8,n9,S4_n,S4_gl,S4_md,S4_rd,b_S4,b2_S4,x1,x2,x3,hA2s,hdr2,htk2,hd5,S5_n,S5_gl,S5_md,S5_rd,b_S5,b2_S5,S6_n,S6_gl,S6_md,S6_rd,b_S6,b2_S6]) hc (by omega) (by omega) (by omega)) rfl (fun r7 S7 h7=>?_)
        obtain⟨q7,hG7⟩:=h7
        subst q7
        have S7_n:=hG7.n
        try simp[h,S1_n,S1_gl,S1_md,R_S1,n1,n2,hbb,S2_n,S2_gl,S2_md,S2_rd,b_S2,hAl2,f1,f2,f3,hdr,htk,hd2,hd3,S3_n,S3_gl,S3_md,S3_rd,b_S3,hfp,b2_S3,n7,n8,n9,S4_n,S4_gl,S4_md,S4_rd,b_S4,b2_S4,x1,x2,x3,hA2s,hdr2,htk2,hd5,S5_n,S5_gl,S5_md,S5_rd,b_S5,b2_S5,S6_n,S6_gl,S6_md,S6_rd,b_S6,b2_S6] at S7_n
        have S7_gl:=hG7.gl
        try simp[h,S1_n,S1_gl,S1_md,R_S1,n1,n2,hbb,S2_n,S2_gl,S2_md,S2_rd,b_S2,hAl2,f1,f2,f3,hdr,htk,hd2,hd3,S3_n,S3_gl,S3_md,S3_rd,b_S3,hfp,b2_S3,n7,n8,n9,S4_n,S4_gl,S4_md,S4_rd,b_S4,b2_S4,x1,x2,x3,hA2s,hdr2,htk2,hd5,S5_n,S5_gl,S5_md,S5_rd,b_S5,b2_S5,S6_n,S6_gl,S6_md,S6_rd,b_S6,b2_S6,S7_n] at S7_gl
        have S7_md:=hG7.md
        try simp[h,S1_n,S1_gl,S1_md,R_S1,n1,n2,hbb,S2_n,S2_gl,S2_md,S2_rd,b_S2,hAl2,f1,f2,f3,hdr,htk,hd2,hd3,S3_n,S3_gl,S3_md,S3_rd,b_S3,hfp,b2_S3,n7,n8,n9,S4_n,S4_gl,S4_md,S4_rd,b_S4,b2_S4,x1,x2,x3,hA2s,hdr2,htk2,hd5,S5_n,S5_gl,S5_md,S5_rd,b_S5,b2_S5,S6_n,S6_gl,S6_md,S6_rd,b_S6,b2_S6,S7_n,S7_gl] at S7_md
        have S7_nx:=hG7.nx
        try simp[h,S1_n,S1_gl,S1_md,R_S1,n1,n2,hbb,S2_n,S2_gl,S2_md,S2_rd,b_S2,hAl2,f1,f2,f3,hdr,htk,hd2,hd3,S3_n,S3_gl,S3_md,S3_rd,b_S3,hfp,b2_S3,n7,n8,n9,S4_n,S4_gl,S4_md,S4_rd,b_S4,b2_S4,x1,x2,x3,hA2s,hdr2,htk2,hd5,S5_n,S5_gl,S5_md,S5_rd,b_S5,b2_S5,S6_n,S6_gl,S6_md,S6_rd,b_S6,b2_S6,S7_n,S7_gl,S7_md] at S7_nx
        have S7_rd:=hG7.rd
        have b_S7:=hG7.old b (by first | omega | (simp;omega)) (by omega)
        try simp[h,S1_n,S1_gl,S1_md,R_S1,n1,n2,hbb,S2_n,S2_gl,S2_md,S2_rd,b_S2,hAl2,f1,f2,f3,hdr,htk,hd2,hd3,S3_n,S3_gl,S3_md,S3_rd,b_S3,hfp,b2_S3,n7,n8,n9,S4_n,S4_gl,S4_md,S4_rd,b_S4,b2_S4,x1,x2,x3,hA2s,hdr2,htk2,hd5,S5_n,S5_gl,S5_md,S5_rd,b_S5,b2_S5,S6_n,S6_gl,S6_md,S6_rd,b_S6,b2_S6,S7_n,S7_gl,S7_md,S7_rd] at b_S7
        have b2_S7:=hG7.old b2 (by first | omega | (simp;omega)) (by omega)
        try simp[h,S1_n,S1_gl,S1_md,R_S1,n1,n2,hbb,S2_n,S2_gl,S2_md,S2_rd,b_S2,hAl2,f1,f2,f3,hdr,htk,hd2,hd3,S3_n,S3_gl,S3_md,S3_rd,b_S3,hfp,b2_S3,n7,n8,n9,S4_n,S4_gl,S4_md,S4_rd,b_S4,b2_S4,x1,x2,x3,hA2s,hdr2,htk2,hd5,S5_n,S5_gl,S5_md,S5_rd,b_S5,b2_S5,S6_n,S6_gl,S6_md,S6_rd,b_S6,b2_S6,S7_n,S7_gl,S7_md,S7_rd,b_S7] at b2_S7
        have S7_o:∀ y,y<N→y≠R→S7.B y=Sr.B y:=fun y k1 k2=>by
          have a1:=hG7.old y (by first | omega | (simp;omega)) k2
          try simp[] at a1
          exact a1.trans (S6_o y k1 k2)
        have S7_t:∀ y,y<N→S7.T y=Sr.T y:=fun y k1=>by
          have a1:=hG7.T y (by first | omega | (simp;omega))
          try simp at a1
          exact a1.trans (S6_t y k1)
        simp[h,S1_n,S1_gl,S1_md,R_S1,n1,n2,hbb,S2_n,S2_gl,S2_md,S2_rd,b_S2,hAl2,f1,f2,f3,hdr,htk,hd2,hd3,S3_n,S3_gl,S3_md,S3_rd,b_S3,hfp,b2_S3,n7,n8,n9,S4_n,S4_gl,S4_md,S4_rd,b_S4,b2_S4,x1,x2,x3,hA2s,hdr2,htk2,hd5,S5_n,S5_gl,S5_md,S5_rd,b_S5,b2_S5,S6_n,S6_gl,S6_md,S6_rd,b_S6,b2_S6,S7_n,S7_gl,S7_md,S7_rd,b_S7,b2_S7]
        have hp2:pB 2=80:=rfl
        refine CallT.x (l_value13 c hc 2 _ R (q6+1) (by first | omega | (simp;omega)) (by simp[h,S1_n,S1_gl,S1_md,R_S1,n1,n2,hbb,S2_n,S2_gl,S2_md,S2_rd,b_S2,hAl2,f1,f2,f3,hdr,htk,hd2,hd3,S3_n,S3_gl,S3_md,S3_rd,b_S3,hfp,b2_S3,n7,n8,n9,S4_n,S4_gl,S4_md,S4_rd,b_S4,b2_S4,x1,x2,x3,hA2s,hdr2,htk2,hd5,S5_n,S5_gl,S5_md,S5_rd,b_S5,b2_S5,S6_n,S6_gl,S6_md,S6_rd,b_S6,b2_S6,S7_n,S7_gl,S7_md,S7_rd,b_S7,b2_S7]) (by omega) (by omega)) rfl (fun r8 S8 h8=>?_)
        obtain⟨v8,hv8,hvs8,q8,hG8,hq8⟩:=h8
        have S8_n:=hG8.n
        try simp[h,S1_n,S1_gl,S1_md,R_S1,n1,n2,hbb,S2_n,S2_gl,S2_md,S2_rd,b_S2,hAl2,f1,f2,f3,hdr,htk,hd2,hd3,S3_n,S3_gl,S3_md,S3_rd,b_S3,hfp,b2_S3,n7,n8,n9,S4_n,S4_gl,S4_md,S4_rd,b_S4,b2_S4,x1,x2,x3,hA2s,hdr2,htk2,hd5,S5_n,S5_gl,S5_md,S5_rd,b_S5,b2_S5,S6_n,S6_gl,S6_md,S6_rd,b_S6,b2_S6,S7_n,S7_gl,S7_md,S7_rd,b_S7,b2_S7] at S8_n
        have S8_gl:=hG8.gl
        try simp[h,S1_n,S1_gl,S1_md,R_S1,n1,n2,hbb,S2_n,S2_gl,S2_md,S2_rd,b_S2,hAl2,f1,f2,f3,hdr,htk,hd2,hd3,S3_n,S3_gl,S3_md,S3_rd,b_S3,hfp,b2_S3,n7,n8,n9,S4_n,S4_gl,S4_md,S4_rd,b_S4,b2_S4,x1,x2,x3,hA2s,hdr2,htk2,hd5,S5_n,S5_gl,S5_md,S5_rd,b_S5,b2_S5,S6_n,S6_gl,S6_md,S6_rd,b_S6,b2_S6,S7_n,S7_gl,S7_md,S7_rd,b_S7,b2_S7,S8_n] at S8_gl
        have S8_md:=hG8.md
        try simp[h,S1_n,S1_gl,S1_md,R_S1,n1,n2,hbb,S2_n,S2_gl,S2_md,S2_rd,b_S2,hAl2,f1,f2,f3,hdr,htk,hd2,hd3,S3_n,S3_gl,S3_md,S3_rd,b_S3,hfp,b2_S3,n7,n8,n9,S4_n,S4_gl,S4_md,S4_rd,b_S4,b2_S4,x1,x2,x3,hA2s,hdr2,htk2,hd5,S5_n,S5_gl,S5_md,S5_rd,b_S5,b2_S5,S6_n,S6_gl,S6_md,S6_rd,b_S6,b2_S6,S7_n,S7_gl,S7_md,S7_rd,b_S7,b2_S7,S8_n,S8_gl] at S8_md
        have S8_nx:=hG8.nx
        try simp[h,S1_n,S1_gl,S1_md,R_S1,n1,n2,hbb,S2_n,S2_gl,S2_md,S2_rd,b_S2,hAl2,f1,f2,f3,hdr,htk,hd2,hd3,S3_n,S3_gl,S3_md,S3_rd,b_S3,hfp,b2_S3,n7,n8,n9,S4_n,S4_gl,S4_md,S4_rd,b_S4,b2_S4,x1,x2,x3,hA2s,hdr2,htk2,hd5,S5_n,S5_gl,S5_md,S5_rd,b_S5,b2_S5,S6_n,S6_gl,S6_md,S6_rd,b_S6,b2_S6,S7_n,S7_gl,S7_md,S7_rd,b_S7,b2_S7,S8_n,S8_gl,S8_md] at S8_nx
        have S8_rd:=hG8.rd
        have b_S8:=hG8.old b (by first | omega | (simp;omega)) (by omega)
        try simp[h,S1_n,S1_gl,S1_md,R_S1,n1,n2,hbb,S2_n,S2_gl,S2_md,S2_rd,b_S2,hAl2,f1,f2,f3,hdr,htk,hd2,hd3,S3_n,S3_gl,S3_md,S3_rd,b_S3,hfp,b2_S3,n7,n8,n9,S4_n,S4_gl,S4_md,S4_rd,b_S4,b2_S4,x1,x2,x3,hA2s,hdr2,htk2,hd5,S5_n,S5_gl,S5_md,S5_rd,b_S5,b2_S5,S6_n,S6_gl,S6_md,S6_rd,b_S6,b2_S6,S7_n,S7_gl,S7_md,S7_rd,b_S7,b2_S7,S8_n,S8_gl,S8_md,S8_rd] at b_S8
        have b2_S8:=hG8.old b2 (by first | omega | (simp;omega)) (by omega)
        try simp[h,S1_n,S1_gl,S1_md,R_S1,n1,n2,hbb,S2_n,S2_gl,S2_md,S2_rd,b_S2,hAl2,f1,f2,f3,hdr,htk,hd2,hd3,S3_n,S3_gl,S3_md,S3_rd,b_S3,hfp,b2_S3,n7,n8,n9,S4_n,S4_gl,S4_md,S4_rd,b_S4,b2_S4,x1,x2,x3,hA2s,hdr2,htk2,hd5,S5_n,S5_gl,S5_md,S5_rd,b_S5,b2_S5,S6_n,S6_gl,S6_md,S6_rd,b_S6,b2_S6,S7_n,S7_gl,S7_md,S7_rd,b_S7,b2_S7,S8_n,S8_gl,S8_md,S8_rd,b_S8] at b2_S8
        have S8_o:∀ y,y<N→y≠R→S8.B y=Sr.B y:=fun y k1 k2=>by
          have a1:=hG8.old y (by first | omega | (simp;omega)) k2
          try simp[] at a1
          exact a1.trans (S7_o y k1 k2)
        have S8_t:∀ y,y<N→S8.T y=Sr.T y:=fun y k1=>by
          have a1:=hG8.T y (by first | omega | (simp;omega))
          try simp at a1
          exact a1.trans (S7_t y k1)
        obtain⟨hX8,hY8⟩:=hv8
        obtain⟨u1,u2,u3⟩:=hX8.one
        obtain⟨u4,u5,u6⟩:=hY8.one
        have hxD:=hX8.toD
        have hyD:=hY8.toD
        have hab1:appBound 0 1 152:=by unfold appBound;omega
        simp[h,S1_n,S1_gl,S1_md,R_S1,n1,n2,hbb,S2_n,S2_gl,S2_md,S2_rd,b_S2,hAl2,f1,f2,f3,hdr,htk,hd2,hd3,S3_n,S3_gl,S3_md,S3_rd,b_S3,hfp,b2_S3,n7,n8,n9,S4_n,S4_gl,S4_md,S4_rd,b_S4,b2_S4,x1,x2,x3,hA2s,hdr2,htk2,hd5,S5_n,S5_gl,S5_md,S5_rd,b_S5,b2_S5,S6_n,S6_gl,S6_md,S6_rd,b_S6,b2_S6,S7_n,S7_gl,S7_md,S7_rd,b_S7,b2_S7,S8_n,S8_gl,S8_md,S8_rd,b_S8,b2_S8,u1,u2,u3,u4,u5,u6,hxD,hyD,hab1]
        rename_i kv mv sv lv nv Xv Yv
        have ha00:g2.args=[]:=List.eq_nil_of_length_eq_zero ha0
        refine⟨by omega,?_⟩
        have nRb2:¬ R=b2:=by have:=hvf2.2.1;omega
        refine⟨LA++⟨d.name,d.kind,LA2++⟨g2.name,[⟨nm, .mk s6 l6 m6,decide (pickK c q6 2=0), .mk kv mv sv lv nv⟩],g2.ty⟩::LZ2,d.words⟩::LZ,LstF.g (fin3 _ _ (.tp (S4.nx+20) 0 [dS nm,dS s6, .ps (typsCells l6) l6.length,dB m6,dB (decide (pickK c q6 2=0)),dI kv,dI mv,dS sv, .ps (valsCells lv) lv.length, .ps (nv.map dS) nv.length] 1) _ (by omega) (by simp[h,S1_n,S1_gl,S1_md,R_S1,n1,n2,hbb,S2_n,S2_gl,S2_md,S2_rd,b_S2,hAl2,f1,f2,f3,hdr,htk,hd2,hd3,S3_n,S3_gl,S3_md,S3_rd,b_S3,hfp,b2_S3,n7,n8,n9,S4_n,S4_gl,S4_md,S4_rd,b_S4,b2_S4,x1,x2,x3,hA2s,hdr2,htk2,hd5,S5_n,S5_gl,S5_md,S5_rd,b_S5,b2_S5,S6_n,S6_gl,S6_md,S6_rd,b_S6,b2_S6,S7_n,S7_gl,S7_md,S7_rd,b_S7,b2_S7,S8_n,S8_gl,S8_md,S8_rd,b_S8,b2_S8,u1,u2,u3,u4,u5,u6,hxD,hyD,hab1]) ?_ (fun y k1 k2 k3=>?_) (fun B' hB' hv9=>?_)),k_mid hK0 (kfin _ (by simp) ?_),by simp;omega,q8,gotT S8 _ q8 S8_o S8_t rfl rfl rfl (by simp;omega) ?_ ?_ ?_,by omega⟩
        · simp
          exact drop_add hA2s 2 _
        · simp[k3]
          exact (S8_o y k1 k2).trans (by rw[hSr])
        · simp[argsCells,Arg.cells,Typ.cells,Val.cells]
        · intro x hx
          rw[List.mem_singleton] at hx
          subst hx
          exact⟨by show nm.size≤_;omega,htl,hvs8⟩
        · simp[nRb2]
          exact S8_rd
        · intro y k1 k2
          have z3:¬ y=b2:=by have:=hvf2.2.1;omega
          simp[z3]
        · intro y k1
          show upd _ _ _ y=_
          exact upd_ne _ _ (by omega)
  · simp[h,S1_n,S1_gl,S1_md,R_S1,n1,n2,hbb,S2_n,S2_gl,S2_md,S2_rd,b_S2,hAl2,f1,f2,f3,hdr,htk,hd2,hd3,S3_n,S3_gl,S3_md,S3_rd,b_S3]
    rcases ld_z hf with ⟨rfl,hf0⟩ | ⟨b2,fc,rfl,hfc,hf0⟩
    · simp[h,S1_n,S1_gl,S1_md,R_S1,n1,n2,hbb,S2_n,S2_gl,S2_md,S2_rd,b_S2,hAl2,f1,f2,f3,hdr,htk,hd2,hd3,S3_n,S3_gl,S3_md,S3_rd,b_S3]
      refine⟨schemaL,LstF.g ((lst0 S3 S3_o).keep (fun _ _ _=>rfl) (Nat.le_refl _) (by omega)),schema_k,by decide,p+2,gotE S3 _ (p+2) S3_o S3_t rfl rfl rfl (by simp;omega) S3_rd (fun _ _ _=>rfl) rfl,by omega⟩
    · have hfp:0<d.flds.length:=by omega
      have hvf2:=hvb (b2,svs fc) (hvf _ (by simp[Ld.vars]))
      have b2_S3:=S3_o b2 hvf2.2.2.1 (by have:=hvf2.2.1;omega)
      rw[← hSr,hvf2.2.2.2] at b2_S3
      have n7:¬ b=b2:=fun e=>hvf2.1 e.symm
      have n8:¬ b2=b:=fun e=>hvf2.1 e
      obtain⟨A2,a2,T2,Z2,LA2,g2,LZ2,rfl,hL2,hA2k,hA2l,hA2,hZ2,ha2,hT2⟩:=flds_split (k:=0) hfc hfp
      obtain⟨ta,tb,tc,rfl⟩:=three_of (by rw[← shs_len,hT2];simp:T2.length=3)
      have hA20:A2=[]:=List.eq_nil_of_length_eq_zero (by omega)
      subst hA20
      obtain⟨x1,x2,x3⟩:=z_one ha2
      have hl2:Z2.length+5=d.flds.length*5:=by
        have:=congrArg List.length hfc
        simp only[shs_len,rowsZ_len (fun x=>by simp:∀ x:Fld,(Fld.sz x).length=5)] at this
        simp at this
        omega
      simp[h,S1_n,S1_gl,S1_md,R_S1,n1,n2,hbb,S2_n,S2_gl,S2_md,S2_rd,b_S2,hAl2,f1,f2,f3,hdr,htk,hd2,hd3,S3_n,S3_gl,S3_md,S3_rd,b_S3,hfp,b2_S3,n7,n8,x1,x2,x3]
      refine⟨DrawT.mk (by kernel_rfl),?_⟩
      have e1:∀ x y z v w:SV,List.take (d.flds.length*5) (x::y::z::v::w::svs Z2)=x::y::z::v::w::svs Z2:=fun x y z v w=>List.take_of_length_le (by simp;omega)
      have e2:d.flds.length*5≤Z2.length+1+1+1+1+1:=by omega
      have hm8:d.flds.length≤1048576:=hKd.1.2.1.1
      have e3:appBound 0 d.flds.length 88:=by unfold appBound;omega
      have e4:appBound d.flds.length 1 88:=by unfold appBound;omega
      have e5:Z2.length+1+1+1+1+1=d.flds.length*5:=by omega
      rw[if_pos e2,e1]
      have y1:¬ b=S3.nx+2+2+2+2+2+6+6:=by omega
      have y2:¬ b2=S3.nx+2+2+2+2+2+6+6:=by omega
      have y3:¬ R=S3.nx+2+2+2+2+2+6+6:=by omega
      have y4:¬ b=S3.nx+2+2+2+2+2+6+14:=by omega
      have y5:¬ b2=S3.nx+2+2+2+2+2+6+14:=by omega
      have y6:¬ R=S3.nx+2+2+2+2+2+6+14:=by omega
      have e6:5≤d.flds.length*5:=by omega
      have e7:k*4+2+1≤k*4+(Z.length+1+1+1+1):=by omega
      simp[h,S1_n,S1_gl,S1_md,R_S1,n1,n2,hbb,S2_n,S2_gl,S2_md,S2_rd,b_S2,hAl2,f1,f2,f3,hdr,htk,hd2,hd3,S3_n,S3_gl,S3_md,S3_rd,b_S3,hfp,b2_S3,n7,n8,x1,x2,x3,y1,y2,y3,y4,y5,y6,appV,onlyIf,e3,e4,e5,e1,e6]
      rw[if_pos e7]
      obtain⟨i6,hi6⟩:∃ i,S3.nx+2+2+2+2+2+6+6=i:=⟨_,rfl⟩
      obtain⟨id,hid⟩:∃ i,S3.nx+2+2+2+2+2+6+14=i:=⟨_,rfl⟩
      rw[hi6,hid]
      have z7:¬ b=i6:=by omega
      have z8:¬ b=id:=by omega
      have z9:¬ R=i6:=by omega
      have z10:¬ R=id:=by omega
      simp[h,S1_n,S1_gl,S1_md,R_S1,n1,n2,hbb,S2_n,S2_gl,S2_md,S2_rd,b_S2,hAl2,f1,f2,f3,hdr,htk,hd2,hd3,S3_n,S3_gl,S3_md,S3_rd,b_S3,hfp,b2_S3,n7,n8,x1,x2,x3,y1,y2,y3,y4,y5,y6,z7,z8,z9,z10]
      have hLA2:LA2=[]:=List.eq_nil_of_length_eq_zero hA2k
      subst hLA2
      have z1:¬ R=id:=by omega
      have z2:¬ R=i6:=by omega
      have z5:¬ id=b:=by omega
      have z6:¬ b=id:=by omega
      have hfl:d.flds=g2::LZ2:=hL2
      refine⟨LA++⟨d.name,d.kind,d.flds++[g2],d.words⟩::LZ,LstF.g ?_,k_mid hK0 ?_,by simp;omega,p+2,gotE S3 _ (p+2) S3_o S3_t rfl rfl rfl (by simp;omega) ?_ ?_ rfl,by omega⟩
      · refine fin2 _ _ [.d (dS d.name), .d (dI d.kind), .sk id (d.flds.length+1) 5,w0.sv] ⟨d.name,d.kind,d.flds++[g2],d.words⟩ (by first | omega | (simp;omega)) (by simp) (fun y k1 k2 k3=>?_) (fun B' hB'=>?_)
        · have z3:¬ y=id:=by omega
          have z4:¬ y=i6:=by omega
          simp[z3,z4,k3]
          exact (S3_o y k1 k2).trans (by rw[hSr])
        · have hq:∀ x,S0.nx≤x→x<N→x≠b→B' x=S1.B x:=fun x k1 k2 k3=>by
            have z3:¬ x=id:=by omega
            have z4:¬ x=i6:=by omega
            have h9:=hB' x k1 (by first | omega | (simp;omega)) k3
            simp[z3,z4,k3] at h9
            exact h9.trans ((S3_o x k2 (by omega)).trans (by rw[hSr]))
          have hid9:=hB' id (by omega) (by first | omega | (simp;omega)) z5
          simp[z5] at hid9
          have hv9:∀ p∈varsL ([]++([Ld.d (.string g2.name),a2]++([ta,tb,tc]++Z2))),B' p.1=some p.2:=fun p hp=>by
            obtain⟨a1,a2,a3,a4⟩:=hvb p (hvf p (by simp only[Ld.vars];exact List.mem_cons_of_mem _ hp))
            rw[hq _ a2 a3 a1,a4]
          have hdp:depL (shs ([]++([Ld.d (.string g2.name),a2]++([ta,tb,tc]++Z2))))<11:=by
            have:=hdep
            simp only[Ld.sh,Sk.dep] at this
            omega
          have r1:=(frz_lds (B:=B') ([]++([Ld.d (.string g2.name),a2]++([ta,tb,tc]++Z2))) 11 hv9 hdp).1
          have r2:=(frz_lds (B:=B') ([Ld.d (.string g2.name),a2]++[ta,tb,tc]) 11 (fun p hp=>hv9 p (by
            simp[varsL,Ld.vars] at hp ⊢
            rcases hp with h | h | h | h<;>simp[h])) (by
            simp only[List.nil_append,shs_app,depL_app,shs,depL] at hdp ⊢
            omega)).1
          have e9:mapO (frz B' 11) (SV.d (D.v (Value.string g2.name))::a2.sv::ta.sv::tb.sv::tc.sv::(svs Z2++[SV.d (D.v (Value.string g2.name)),a2.sv,ta.sv,tb.sv,tc.sv]))=some (fldsCells (d.flds++[g2])):=by
            have:=mapO_app r1 r2
            rw[hfc] at this
            have e5:shs ([Ld.d (.string g2.name),a2]++[ta,tb,tc])=Fld.sz g2:=by
              simp[shs,Ld.sh,Fld.sz,ha2, ← hT2]
            rw[e5,fld_szdata,rowsZ_data fld_szdata] at this
            simpa[fldsCells] using this
          refine mapO4 rfl rfl ?_ (fzw B' fun p hp=>?_)
          · show (match B' id with | some cs=>(mapO (frz B' 11) cs).map fun ds=>D.ps ds (d.flds.length+1) | none=>none)=_
            rw[hid9]
            show Option.map (fun ds=>D.ps ds (d.flds.length+1)) (mapO (frz B' 11) _)=_
            rw[e9]
            simp
          · obtain⟨a1,a2,a3,a4⟩:=hvb p (hvw p hp)
            rw[hq _ a2 a3 a1,a4]
      · refine⟨⟨hKd.1.1,⟨by simp;omega,fun x hx=>?_⟩,hKd.1.2.2⟩,hKd.2⟩
        rcases List.mem_append.1 hx with hx | hx
        · exact hKd.1.2.1.2 x hx
        · rw[List.mem_singleton] at hx
          subst hx
          exact hKd.1.2.1.2 _ (by rw[hfl];simp)
      · simp[z1,z2,n1]
        exact S3_rd
      · intro y k1 k2
        have z3:¬ y=id:=by omega
        have z4:¬ y=b:=by omega
        have z5:¬ y=i6:=by omega
        simp[z3,z4,z5]
  · simp[h,S1_n,S1_gl,S1_md,R_S1,n1,n2,hbb,S2_n,S2_gl,S2_md,S2_rd,b_S2,hAl2,f1,f2,f3,hdr,htk,hd2,hd3,S3_n,S3_gl,S3_md,S3_rd,b_S3]
    have w1:=wrap64 (n:=(k:Int)+1) (by omega) (by omega)
    rw[w1]
    have w2:((k:Int)+1).toNat=k+1:=by omega
    rw[w2]
    refine⟨DrawT.mk (by kernel_rfl),by omega,by omega,?_⟩
    by_cases hk6:(k:Int)+1<7
    · rw[if_pos hk6]
      obtain⟨id,hid⟩:∃ id,S3.nx+2+2+2+2+2+2+7=id:=⟨_,rfl⟩
      have e1:List.take ((6 - k)*4) (List.drop ((k+1)*4) (svs A++SV.d (dS d.name)::SV.d (dI d.kind)::f.sv::w0.sv::svs Z))=svs Z:=by
        have:(k+1)*4=k*4+4:=by omega
        rw[this,drop_add hAl2 4]
        exact List.take_of_length_le (by simp;omega)
      have e2:List.take (k*4) (svs A++SV.d (dS d.name)::SV.d (dI d.kind)::f.sv::w0.sv::svs Z)=svs A:=by
        have:=take_add hAl2 0 (SV.d (dS d.name)::SV.d (dI d.kind)::f.sv::w0.sv::svs Z)
        simpa using this
      have e3:(k+1)*4+(6 - k)*4≤k*4+(Z.length+1+1+1+1):=by omega
      have e4:0<6 - k:=by omega
      have e5:appBound k (6 - k) 72:=by unfold appBound;omega
      have e6:Z.length=(6 - k)*4:=by omega
      have e7:k+(6 - k)=6:=by omega
      have e8:k*4≤k*4+(Z.length+1+1+1+1):=by omega
      simp[h,S1_n,S1_gl,S1_md,R_S1,n1,n2,hbb,S2_n,S2_gl,S2_md,S2_rd,b_S2,hAl2,f1,f2,f3,hdr,htk,hd2,hd3,S3_n,S3_gl,S3_md,S3_rd,b_S3,hk6]
      rw[hid,if_pos e3,e1]
      simp[h,S1_n,S1_gl,S1_md,R_S1,n1,n2,hbb,S2_n,S2_gl,S2_md,S2_rd,b_S2,hAl2,f1,f2,f3,hdr,htk,hd2,hd3,S3_n,S3_gl,S3_md,S3_rd,b_S3,appV,onlyIf,e4,e5,e6,e7,hAl2,e2]
      have z1:¬ R=id:=by omega
      refine⟨LA++LZ,LstF.g (lst_two (by omega) (by omega) (by simp) hA hZ (by omega) (by omega) (fun p hp=>?_) (by simp;omega)),?_,by simp;omega,p+2,gotE S3 _ (p+2) S3_o S3_t rfl rfl rfl (by simp;omega) ?_ ?_ rfl,by omega⟩
      · obtain⟨a1,a2,a3,a4⟩:=hvb p (hvAZ p hp)
        have z3:¬ p.1=id:=by omega
        refine⟨a2,by omega,z3,?_⟩
        simp[z3,a1]
        exact (S3_o _ a3 (by omega)).trans (by rw[← hSr];exact a4)
      · intro x hx
        rcases List.mem_append.1 hx with hx | hx
        · exact hK0 x (List.mem_append_left _ hx)
        · exact hK0 x (List.mem_append_right _ (List.mem_cons_of_mem _ hx))
      · simp[z1,n1]
        exact S3_rd
      · intro y k1 k2
        have z3:¬ y=id:=by omega
        have z4:¬ y=b:=by omega
        simp[z3,z4]
    · have hk60:k=6:=by omega
      rw[if_neg hk6]
      simp[h,S1_n,S1_gl,S1_md,R_S1,n1,n2,hbb,S2_n,S2_gl,S2_md,S2_rd,b_S2,hAl2,f1,f2,f3,hdr,htk,hd2,hd3,S3_n,S3_gl,S3_md,S3_rd,b_S3,hk6]
      have hLZ:LZ=[]:=List.eq_nil_of_length_eq_zero (by omega)
      subst hLZ
      refine⟨LA,⟨b,_,d.cells,by rw[hAk],by omega,by omega,b_S3,fun B' hB'=>?_⟩,fun x hx=>hK0 x (List.mem_append_left _ hx),by omega,p+2,gotE S3 _ (p+2) S3_o S3_t rfl rfl rfl (by simp;omega) S3_rd (fun _ _ _=>rfl) rfl,by omega⟩
      obtain⟨b9,cs9,g1,g2,g3,g4,g5⟩:=(lst0 S3 S3_o).of
      cases g1
      rw[b_S3] at g4
      cases g4
      have h9:=g5 B' (fun x k1 k2 k3=>hB' x k1 (by first | omega | (simp;omega)) k3)
      rw[h9,hL]
      simp[defsCells]
  · simp[h,S1_n,S1_gl,S1_md,R_S1,n1,n2,hbb,S2_n,S2_gl,S2_md,S2_rd,b_S2,hAl2,f1,f2,f3,hdr,htk,hd2,hd3,S3_n,S3_gl,S3_md,S3_rd,b_S3]
    refine CallT.x (x_of _ R c (p+2) _ [⟨#[78,101,119]⟩,⟨#[80,101,116]⟩] (.inl rfl) (by simp) (by simp) (by first | omega | (simp;omega)) (by simp[h,S1_n,S1_gl,S1_md,R_S1,n1,n2,hbb,S2_n,S2_gl,S2_md,S2_rd,b_S2,hAl2,f1,f2,f3,hdr,htk,hd2,hd3,S3_n,S3_gl,S3_md,S3_rd,b_S3]) hc (by omega)) rfl (fun r4 S4 h4=>?_)
    obtain⟨q4,hG4⟩:=h4
    subst q4
    have S4_n:=hG4.n
    try simp[h,S1_n,S1_gl,S1_md,R_S1,n1,n2,hbb,S2_n,S2_gl,S2_md,S2_rd,b_S2,hAl2,f1,f2,f3,hdr,htk,hd2,hd3,S3_n,S3_gl,S3_md,S3_rd,b_S3] at S4_n
    have S4_gl:=hG4.gl
    try simp[h,S1_n,S1_gl,S1_md,R_S1,n1,n2,hbb,S2_n,S2_gl,S2_md,S2_rd,b_S2,hAl2,f1,f2,f3,hdr,htk,hd2,hd3,S3_n,S3_gl,S3_md,S3_rd,b_S3,S4_n] at S4_gl
    have S4_md:=hG4.md
    try simp[h,S1_n,S1_gl,S1_md,R_S1,n1,n2,hbb,S2_n,S2_gl,S2_md,S2_rd,b_S2,hAl2,f1,f2,f3,hdr,htk,hd2,hd3,S3_n,S3_gl,S3_md,S3_rd,b_S3,S4_n,S4_gl] at S4_md
    have S4_nx:=hG4.nx
    try simp[h,S1_n,S1_gl,S1_md,R_S1,n1,n2,hbb,S2_n,S2_gl,S2_md,S2_rd,b_S2,hAl2,f1,f2,f3,hdr,htk,hd2,hd3,S3_n,S3_gl,S3_md,S3_rd,b_S3,S4_n,S4_gl,S4_md] at S4_nx
    have S4_rd:=hG4.rd
    have b_S4:=hG4.old b (by first | omega | (simp;omega)) (by omega)
    try simp[h,S1_n,S1_gl,S1_md,R_S1,n1,n2,hbb,S2_n,S2_gl,S2_md,S2_rd,b_S2,hAl2,f1,f2,f3,hdr,htk,hd2,hd3,S3_n,S3_gl,S3_md,S3_rd,b_S3,S4_n,S4_gl,S4_md,S4_rd] at b_S4
    have S4_o:∀ y,y<N→y≠R→S4.B y=Sr.B y:=fun y k1 k2=>by
      have a1:=hG4.old y (by first | omega | (simp;omega)) k2
      try simp[] at a1
      exact a1.trans (S3_o y k1 k2)
    have S4_t:∀ y,y<N→S4.T y=Sr.T y:=fun y k1=>by
      have a1:=hG4.T y (by first | omega | (simp;omega))
      try simp at a1
      exact a1.trans (S3_t y k1)
    have hnm:=ofK_mem c (p+2) (l:=[⟨#[78,101,119]⟩,⟨#[80,101,116]⟩]) (by simp)
    generalize ofK c (p+2) _=nm at hnm
    have hnm2:nm.size≤40∧nm≠freshS∧nm≠nobodyS:=by
      simp only[List.mem_cons,List.not_mem_nil,or_false] at hnm
      rcases hnm with rfl | rfl<;>decide
    simp[h,S1_n,S1_gl,S1_md,R_S1,n1,n2,hbb,S2_n,S2_gl,S2_md,S2_rd,b_S2,hAl2,f1,f2,f3,hdr,htk,hd2,hd3,S3_n,S3_gl,S3_md,S3_rd,b_S3,S4_n,S4_gl,S4_md,S4_rd,b_S4]
    refine CallT.x (x_of _ R c (p+3) _ [⟨#[80,101,114,115,111,110]⟩,⟨#[75,105,110,100]⟩,⟨#[78,111,110,101]⟩] (.inl rfl) (by simp) (by simp) (by first | omega | (simp;omega)) (by simp[h,S1_n,S1_gl,S1_md,R_S1,n1,n2,hbb,S2_n,S2_gl,S2_md,S2_rd,b_S2,hAl2,f1,f2,f3,hdr,htk,hd2,hd3,S3_n,S3_gl,S3_md,S3_rd,b_S3,S4_n,S4_gl,S4_md,S4_rd,b_S4]) hc (by omega)) rfl (fun r5 S5 h5=>?_)
    obtain⟨q5,hG5⟩:=h5
    subst q5
    have S5_n:=hG5.n
    try simp[h,S1_n,S1_gl,S1_md,R_S1,n1,n2,hbb,S2_n,S2_gl,S2_md,S2_rd,b_S2,hAl2,f1,f2,f3,hdr,htk,hd2,hd3,S3_n,S3_gl,S3_md,S3_rd,b_S3,S4_n,S4_gl,S4_md,S4_rd,b_S4] at S5_n
    have S5_gl:=hG5.gl
    try simp[h,S1_n,S1_gl,S1_md,R_S1,n1,n2,hbb,S2_n,S2_gl,S2_md,S2_rd,b_S2,hAl2,f1,f2,f3,hdr,htk,hd2,hd3,S3_n,S3_gl,S3_md,S3_rd,b_S3,S4_n,S4_gl,S4_md,S4_rd,b_S4,S5_n] at S5_gl
    have S5_md:=hG5.md
    try simp[h,S1_n,S1_gl,S1_md,R_S1,n1,n2,hbb,S2_n,S2_gl,S2_md,S2_rd,b_S2,hAl2,f1,f2,f3,hdr,htk,hd2,hd3,S3_n,S3_gl,S3_md,S3_rd,b_S3,S4_n,S4_gl,S4_md,S4_rd,b_S4,S5_n,S5_gl] at S5_md
    have S5_nx:=hG5.nx
    try simp[h,S1_n,S1_gl,S1_md,R_S1,n1,n2,hbb,S2_n,S2_gl,S2_md,S2_rd,b_S2,hAl2,f1,f2,f3,hdr,htk,hd2,hd3,S3_n,S3_gl,S3_md,S3_rd,b_S3,S4_n,S4_gl,S4_md,S4_rd,b_S4,S5_n,S5_gl,S5_md] at S5_nx
    have S5_rd:=hG5.rd
    have b_S5:=hG5.old b (by first | omega | (simp;omega)) (by omega)
    try simp[h,S1_n,S1_gl,S1_md,R_S1,n1,n2,hbb,S2_n,S2_gl,S2_md,S2_rd,b_S2,hAl2,f1,f2,f3,hdr,htk,hd2,hd3,S3_n,S3_gl,S3_md,S3_rd,b_S3,S4_n,S4_gl,S4_md,S4_rd,b_S4,S5_n,S5_gl,S5_md,S5_rd] at b_S5
    have S5_o:∀ y,y<N→y≠R→S5.B y=Sr.B y:=fun y k1 k2=>by
      have a1:=hG5.old y (by first | omega | (simp;omega)) k2
      try simp[] at a1
      exact a1.trans (S4_o y k1 k2)
    have S5_t:∀ y,y<N→S5.T y=Sr.T y:=fun y k1=>by
      have a1:=hG5.T y (by first | omega | (simp;omega))
      try simp at a1
      exact a1.trans (S4_t y k1)
    have hwd:=ofK_mem c (p+3) (l:=[⟨#[80,101,114,115,111,110]⟩,⟨#[75,105,110,100]⟩,⟨#[78,111,110,101]⟩]) (by simp)
    generalize ofK c (p+3) _=wd5 at hwd
    have hwd2:wd5.size≤40:=by
      simp only[List.mem_cons,List.not_mem_nil,or_false] at hwd
      rcases hwd with rfl | rfl | rfl<;>decide
    simp[h,S1_n,S1_gl,S1_md,R_S1,n1,n2,hbb,S2_n,S2_gl,S2_md,S2_rd,b_S2,hAl2,f1,f2,f3,hdr,htk,hd2,hd3,S3_n,S3_gl,S3_md,S3_rd,b_S3,S4_n,S4_gl,S4_md,S4_rd,b_S4,S5_n,S5_gl,S5_md,S5_rd,b_S5]
    obtain⟨id,hid⟩:∃ id,S3.nx+2+2+2+2+2+2+2+10=id:=⟨_,rfl⟩
    rw[hid]
    have z1:¬ R=id:=by omega
    have z2:¬ b=id:=by omega
    refine⟨⟨by omega,by unfold appBound;omega⟩,schemaL++[⟨nm,4,[],[wd5]⟩],LstF.g ?_,?_,by simp[hlen],p+4,gotE S5 _ (p+4) S5_o S5_t rfl rfl rfl (by simp;omega) ?_ ?_ rfl,by omega⟩
    · refine LstF.add (S:=S5) (lst0 S5 S5_o) b_S5 ?_ ?_ (by omega) (by first | omega | (simp;omega))
      · simp[h28,Def.cells,fldsCells,Fld.cells,Typ.cells,typsCells,argsCells]
      · intro x k1 k2 k3
        simp[k1,k2]
    · intro x hx
      rcases List.mem_append.1 hx with hx | hx
      · exact schema_k x hx
      · rw[List.mem_singleton] at hx
        subst hx
        exact⟨⟨by show nm.size≤_;omega,by simp,by simp;omega⟩,hnm2.2⟩
    · simp[z1,n1]
      exact S5_rd
    · intro y k1 k2
      have z3:¬ y=id:=by omega
      have z4:¬ y=b:=by omega
      simp[z3,z4]
  · simp[h,S1_n,S1_gl,S1_md,R_S1,n1,n2,hbb,S2_n,S2_gl,S2_md,S2_rd,b_S2,hAl2,f1,f2,f3,hdr,htk,hd2,hd3,S3_n,S3_gl,S3_md,S3_rd,b_S3]
    refine CallT.x (x_of _ R c (p+2) _ [⟨#[76,111,111,112]⟩,⟨#[73,110]⟩,⟨#[73,110,116]⟩] (.inl rfl) (by simp) (by simp) (by first | omega | (simp;omega)) (by simp[h,S1_n,S1_gl,S1_md,R_S1,n1,n2,hbb,S2_n,S2_gl,S2_md,S2_rd,b_S2,hAl2,f1,f2,f3,hdr,htk,hd2,hd3,S3_n,S3_gl,S3_md,S3_rd,b_S3]) hc (by omega)) rfl (fun r4 S4 h4=>?_)
    obtain⟨q4,hG4⟩:=h4
    subst q4
    have S4_n:=hG4.n
    try simp[h,S1_n,S1_gl,S1_md,R_S1,n1,n2,hbb,S2_n,S2_gl,S2_md,S2_rd,b_S2,hAl2,f1,f2,f3,hdr,htk,hd2,hd3,S3_n,S3_gl,S3_md,S3_rd,b_S3] at S4_n
    have S4_gl:=hG4.gl
    try simp[h,S1_n,S1_gl,S1_md,R_S1,n1,n2,hbb,S2_n,S2_gl,S2_md,S2_rd,b_S2,hAl2,f1,f2,f3,hdr,htk,hd2,hd3,S3_n,S3_gl,S3_md,S3_rd,b_S3,S4_n] at S4_gl
    have S4_md:=hG4.md
    try simp[h,S1_n,S1_gl,S1_md,R_S1,n1,n2,hbb,S2_n,S2_gl,S2_md,S2_rd,b_S2,hAl2,f1,f2,f3,hdr,htk,hd2,hd3,S3_n,S3_gl,S3_md,S3_rd,b_S3,S4_n,S4_gl] at S4_md
    have S4_nx:=hG4.nx
    try simp[h,S1_n,S1_gl,S1_md,R_S1,n1,n2,hbb,S2_n,S2_gl,S2_md,S2_rd,b_S2,hAl2,f1,f2,f3,hdr,htk,hd2,hd3,S3_n,S3_gl,S3_md,S3_rd,b_S3,S4_n,S4_gl,S4_md] at S4_nx
    have S4_rd:=hG4.rd
    have b_S4:=hG4.old b (by first | omega | (simp;omega)) (by omega)
    try simp[h,S1_n,S1_gl,S1_md,R_S1,n1,n2,hbb,S2_n,S2_gl,S2_md,S2_rd,b_S2,hAl2,f1,f2,f3,hdr,htk,hd2,hd3,S3_n,S3_gl,S3_md,S3_rd,b_S3,S4_n,S4_gl,S4_md,S4_rd] at b_S4
    have S4_o:∀ y,y<N→y≠R→S4.B y=Sr.B y:=fun y k1 k2=>by
      have a1:=hG4.old y (by first | omega | (simp;omega)) k2
      try simp[] at a1
      exact a1.trans (S3_o y k1 k2)
    have S4_t:∀ y,y<N→S4.T y=Sr.T y:=fun y k1=>by
      have a1:=hG4.T y (by first | omega | (simp;omega))
      try simp at a1
      exact a1.trans (S3_t y k1)
    have hnm:=ofK_mem c (p+2) (l:=[⟨#[76,111,111,112]⟩,⟨#[73,110]⟩,⟨#[73,110,116]⟩]) (by simp)
    generalize ofK c (p+2) _=nm at hnm
    have hnm2:nm.size≤40:=by
      simp only[List.mem_cons,List.not_mem_nil,or_false] at hnm
      rcases hnm with rfl | rfl | rfl<;>decide
    simp[h,S1_n,S1_gl,S1_md,R_S1,n1,n2,hbb,S2_n,S2_gl,S2_md,S2_rd,b_S2,hAl2,f1,f2,f3,hdr,htk,hd2,hd3,S3_n,S3_gl,S3_md,S3_rd,b_S3,S4_n,S4_gl,S4_md,S4_rd,b_S4]
    refine CallT.x (x_pick _ R c (p+3) 2 (by first | omega | (simp;omega)) (by simp[h,S1_n,S1_gl,S1_md,R_S1,n1,n2,hbb,S2_n,S2_gl,S2_md,S2_rd,b_S2,hAl2,f1,f2,f3,hdr,htk,hd2,hd3,S3_n,S3_gl,S3_md,S3_rd,b_S3,S4_n,S4_gl,S4_md,S4_rd,b_S4]) hc (by omega) (by omega) (by omega)) rfl (fun r5 S5 h5=>?_)
    obtain⟨q5,hG5⟩:=h5
    subst q5
    have S5_n:=hG5.n
    try simp[h,S1_n,S1_gl,S1_md,R_S1,n1,n2,hbb,S2_n,S2_gl,S2_md,S2_rd,b_S2,hAl2,f1,f2,f3,hdr,htk,hd2,hd3,S3_n,S3_gl,S3_md,S3_rd,b_S3,S4_n,S4_gl,S4_md,S4_rd,b_S4] at S5_n
    have S5_gl:=hG5.gl
    try simp[h,S1_n,S1_gl,S1_md,R_S1,n1,n2,hbb,S2_n,S2_gl,S2_md,S2_rd,b_S2,hAl2,f1,f2,f3,hdr,htk,hd2,hd3,S3_n,S3_gl,S3_md,S3_rd,b_S3,S4_n,S4_gl,S4_md,S4_rd,b_S4,S5_n] at S5_gl
    have S5_md:=hG5.md
    try simp[h,S1_n,S1_gl,S1_md,R_S1,n1,n2,hbb,S2_n,S2_gl,S2_md,S2_rd,b_S2,hAl2,f1,f2,f3,hdr,htk,hd2,hd3,S3_n,S3_gl,S3_md,S3_rd,b_S3,S4_n,S4_gl,S4_md,S4_rd,b_S4,S5_n,S5_gl] at S5_md
    have S5_nx:=hG5.nx
    try simp[h,S1_n,S1_gl,S1_md,R_S1,n1,n2,hbb,S2_n,S2_gl,S2_md,S2_rd,b_S2,hAl2,f1,f2,f3,hdr,htk,hd2,hd3,S3_n,S3_gl,S3_md,S3_rd,b_S3,S4_n,S4_gl,S4_md,S4_rd,b_S4,S5_n,S5_gl,S5_md] at S5_nx
    have S5_rd:=hG5.rd
    have b_S5:=hG5.old b (by first | omega | (simp;omega)) (by omega)
    try simp[h,S1_n,S1_gl,S1_md,R_S1,n1,n2,hbb,S2_n,S2_gl,S2_md,S2_rd,b_S2,hAl2,f1,f2,f3,hdr,htk,hd2,hd3,S3_n,S3_gl,S3_md,S3_rd,b_S3,S4_n,S4_gl,S4_md,S4_rd,b_S4,S5_n,S5_gl,S5_md,S5_rd] at b_S5
    have S5_o:∀ y,y<N→y≠R→S5.B y=Sr.B y:=fun y k1 k2=>by
      have a1:=hG5.old y (by first | omega | (simp;omega)) k2
      try simp[] at a1
      exact a1.trans (S4_o y k1 k2)
    have S5_t:∀ y,y<N→S5.T y=Sr.T y:=fun y k1=>by
      have a1:=hG5.T y (by first | omega | (simp;omega))
      try simp at a1
      exact a1.trans (S4_t y k1)
    simp[h,S1_n,S1_gl,S1_md,R_S1,n1,n2,hbb,S2_n,S2_gl,S2_md,S2_rd,b_S2,hAl2,f1,f2,f3,hdr,htk,hd2,hd3,S3_n,S3_gl,S3_md,S3_rd,b_S3,S4_n,S4_gl,S4_md,S4_rd,b_S4,S5_n,S5_gl,S5_md,S5_rd,b_S5]
    obtain⟨id,hid⟩:∃ id,S3.nx+2+2+2+2+2+2+2+2+12=id:=⟨_,rfl⟩
    rw[hid]
    have z1:¬ R=id:=by omega
    have z2:¬ b=id:=by omega
    refine⟨⟨by omega,by unfold appBound;omega⟩,schemaL++[⟨⟨#[76,111,111,112]⟩,3,[⟨⟨#[120]⟩,[], .mk nm [] (decide (pickK c (p+3) 2=0))⟩],[]⟩],LstF.g ?_,?_,by simp[hlen],p+4,gotE S5 _ (p+4) S5_o S5_t rfl rfl rfl (by simp;omega) ?_ ?_ rfl,by omega⟩
    · refine LstF.add (S:=S5) (lst0 S5 S5_o) b_S5 ?_ ?_ (by omega) (by first | omega | (simp;omega))
      · simp[h28,Def.cells,fldsCells,Fld.cells,Typ.cells,typsCells,argsCells]
      · intro x k1 k2 k3
        simp[k1,k2]
    · intro x hx
      rcases List.mem_append.1 hx with hx | hx
      · exact schema_k x hx
      · rw[List.mem_singleton] at hx
        subst hx
        exact⟨⟨by show (4:Nat)≤_;omega,⟨by simp,fun x hx=>by rw[List.mem_singleton] at hx;subst hx;exact⟨by show (1:Nat)≤_;omega,⟨by simp,by simp⟩,tle0 (by omega)⟩⟩,by simp⟩,by show (⟨#[76,111,111,112]⟩:ByteArray)≠_∧(⟨#[76,111,111,112]⟩:ByteArray)≠_;decide⟩
    · simp[z1,n1]
      exact S5_rd
    · intro y k1 k2
      have z3:¬ y=id:=by omega
      have z4:¬ y=b:=by omega
      simp[z3,z4]
  · simp[h,S1_n,S1_gl,S1_md,R_S1,n1,n2,hbb,S2_n,S2_gl,S2_md,S2_rd,b_S2,hAl2,f1,f2,f3,hdr,htk,hd2,hd3,S3_n,S3_gl,S3_md,S3_rd,b_S3]
    refine LoopT.round (fun E S=>∃ (E0:List Def) (n:Nat) (bb:Nat) (q:Nat),(S.B R=some (rdP c q))∧(∀ d∈E0,DefK d)∧(n=7+E0.length)∧(q=p+2+E0.length)∧(n≤11)∧(LstF S S0.nx S.nx (.sk bb n 4) (schemaL++E0))∧(∀ y,y<S0.nx→y≠R→S.B y=Sr.B y)∧(∀ y,y<S0.nx→S.T y=Sr.T y)∧(N≤S.nx)∧E 0=some (.op R 0)∧E 3=some (.sk bb n 4)) (fun E S=>match E 3 with | some (.sk _ n _)=>12 - n | _=>0) ⟨[],7,b,p+2,by simp[h,S1_n,S1_gl,S1_md,R_S1,n1,n2,hbb,S2_n,S2_gl,S2_md,S2_rd,b_S2,hAl2,f1,f2,f3,hdr,htk,hd2,hd3,S3_n,S3_gl,S3_md,S3_rd,b_S3];refine⟨?_,fun y k1 k2=>S3_o y (by omega) k2,fun y k1=>S3_t y (by omega),by omega⟩;first | rw[List.append_nil] | skip;exact (lst0 S3 S3_o).keep (fun _ _ _=>rfl) (Nat.le_refl _) (by first | omega | (simp;omega))⟩ ?_
    rintro E S hk ⟨E0,n,bb,q,hrd,hE,hn,hq,hn11,hLst,hrO2,hrT2,hnx,h0,h3⟩
    have hn:S.n=181:=by first | (simpa using hk.n)|(have hh:=hk.n;simp[h,S1_n,S1_gl,S1_md,R_S1,n1,n2,hbb,S2_n,S2_gl,S2_md,S2_rd,b_S2,hAl2,f1,f2,f3,hdr,htk,hd2,hd3,S3_n,S3_gl,S3_md,S3_rd,b_S3] at hh;exact hh)
    have hg:S.gl=S0.gl:=by first | (simpa using hk.gl)|(have hh:=hk.gl;simp[h,S1_n,S1_gl,S1_md,R_S1,n1,n2,hbb,S2_n,S2_gl,S2_md,S2_rd,b_S2,hAl2,f1,f2,f3,hdr,htk,hd2,hd3,S3_n,S3_gl,S3_md,S3_rd,b_S3] at hh;exact hh)
    have hmd:S.md=[1000121]:=by first | (simpa using hk.md)|(have hh:=hk.md;simp[h,S1_n,S1_gl,S1_md,R_S1,n1,n2,hbb,S2_n,S2_gl,S2_md,S2_rd,b_S2,hAl2,f1,f2,f3,hdr,htk,hd2,hd3,S3_n,S3_gl,S3_md,S3_rd,b_S3] at hh;exact hh)
    simp[h,S1_n,S1_gl,S1_md,R_S1,n1,n2,hbb,S2_n,S2_gl,S2_md,S2_rd,b_S2,hAl2,f1,f2,f3,hdr,htk,hd2,hd3,S3_n,S3_gl,S3_md,S3_rd,b_S3,h0,h3,hn,hg,hmd]
    refine CallT.x (x_pick _ R c q 2 (by first | omega | (simp;omega)) (by simp[h,S1_n,S1_gl,S1_md,R_S1,n1,n2,hbb,S2_n,S2_gl,S2_md,S2_rd,b_S2,hAl2,f1,f2,f3,hdr,htk,hd2,hd3,S3_n,S3_gl,S3_md,S3_rd,b_S3,h0,h3,hn,hg,hmd,hrd]) hc (by omega) (by omega) (by omega)) rfl (fun r4 S4 h4=>?_)
    obtain⟨q4,hG4⟩:=h4
    subst q4
    have S4_n:=hG4.n
    try simp[h,S1_n,S1_gl,S1_md,R_S1,n1,n2,hbb,S2_n,S2_gl,S2_md,S2_rd,b_S2,hAl2,f1,f2,f3,hdr,htk,hd2,hd3,S3_n,S3_gl,S3_md,S3_rd,b_S3,h0,h3,hn,hg,hmd,hrd] at S4_n
    have S4_gl:=hG4.gl
    try simp[h,S1_n,S1_gl,S1_md,R_S1,n1,n2,hbb,S2_n,S2_gl,S2_md,S2_rd,b_S2,hAl2,f1,f2,f3,hdr,htk,hd2,hd3,S3_n,S3_gl,S3_md,S3_rd,b_S3,h0,h3,hn,hg,hmd,hrd,S4_n] at S4_gl
    have S4_md:=hG4.md
    try simp[h,S1_n,S1_gl,S1_md,R_S1,n1,n2,hbb,S2_n,S2_gl,S2_md,S2_rd,b_S2,hAl2,f1,f2,f3,hdr,htk,hd2,hd3,S3_n,S3_gl,S3_md,S3_rd,b_S3,h0,h3,hn,hg,hmd,hrd,S4_n,S4_gl] at S4_md
    have S4_nx:=hG4.nx
    try simp[h,S1_n,S1_gl,S1_md,R_S1,n1,n2,hbb,S2_n,S2_gl,S2_md,S2_rd,b_S2,hAl2,f1,f2,f3,hdr,htk,hd2,hd3,S3_n,S3_gl,S3_md,S3_rd,b_S3,h0,h3,hn,hg,hmd,hrd,S4_n,S4_gl,S4_md] at S4_nx
    have S4_rd:=hG4.rd
    have hj:=pickK_lt c q 2 (by omega)
    generalize pickK c q 2=j at hj
    have w1:=wrap64 (n:=(10:Int)+j) (by omega) (by omega)
    obtain⟨b',cs,g1,g2,g3,g4,g5⟩:=hLst.of
    have hlE:(schemaL++E0).length=n:=by rw[List.length_append,hlen];omega
    rw[hlE] at g1
    cases g1
    have hcl:cs.length=n*4:=by
      have:=(mapO_get (g5 S.B fun _ _ _ _=>rfl)).1
      rw[defs_len,hlE] at this
      omega
    have nb:¬ bb=R:=by omega
    have nb2:¬ R=bb:=by omega
    have bb_S4:=hG4.old bb (by first | omega | (simp;omega)) nb
    simp at bb_S4
    rw[g4] at bb_S4
    have htkc:List.take (n*4) cs=cs:=List.take_of_length_le (by omega)
    simp[h,S1_n,S1_gl,S1_md,R_S1,n1,n2,hbb,S2_n,S2_gl,S2_md,S2_rd,b_S2,hAl2,f1,f2,f3,hdr,htk,hd2,hd3,S3_n,S3_gl,S3_md,S3_rd,b_S3,h0,h3,hn,hg,hmd,hrd,S4_n,S4_gl,S4_md,S4_rd,bb_S4,hcl,htkc,nb,nb2,w1]
    refine BrT.dec (fun c3=>?_) (fun c3=>?_)
    · have hn10:n≤10:=by omega
      obtain⟨sN,hsN,hdec⟩:=p_decs n (by omega) hn10
      have hab:appBound n 1 72:=by unfold appBound;omega
      simp[h,S1_n,S1_gl,S1_md,R_S1,n1,n2,hbb,S2_n,S2_gl,S2_md,S2_rd,b_S2,hAl2,f1,f2,f3,hdr,htk,hd2,hd3,S3_n,S3_gl,S3_md,S3_rd,b_S3,h0,h3,hn,hg,hmd,hrd,S4_n,S4_gl,S4_md,S4_rd,bb_S4,hcl,htkc,nb,nb2,c3]
      repeat refine⟨DrawT.mk (by kernel_rfl),?_⟩
      refine CallT.p0 ((hdec _)) (by first | rfl | (simp;done)|(simp[h,S1_n,S1_gl,S1_md,R_S1,n1,n2,hbb,S2_n,S2_gl,S2_md,S2_rd,b_S2,hAl2,f1,f2,f3,hdr,htk,hd2,hd3,S3_n,S3_gl,S3_md,S3_rd,b_S3,h0,h3,hn,hg,hmd,hrd,S4_n,S4_gl,S4_md,S4_rd,bb_S4,hcl,htkc,nb,nb2,c3];done)) (by first | rfl | (simp;done)|(simp;rfl)|(simp[h,S1_n,S1_gl,S1_md,R_S1,n1,n2,hbb,S2_n,S2_gl,S2_md,S2_rd,b_S2,hAl2,f1,f2,f3,hdr,htk,hd2,hd3,S3_n,S3_gl,S3_md,S3_rd,b_S3,h0,h3,hn,hg,hmd,hrd,S4_n,S4_gl,S4_md,S4_rd,bb_S4,hcl,htkc,nb,nb2,c3];done)) ?_
      simp[h,S1_n,S1_gl,S1_md,R_S1,n1,n2,hbb,S2_n,S2_gl,S2_md,S2_rd,b_S2,hAl2,f1,f2,f3,hdr,htk,hd2,hd3,S3_n,S3_gl,S3_md,S3_rd,b_S3,h0,h3,hn,hg,hmd,hrd,S4_n,S4_gl,S4_md,S4_rd,bb_S4,hcl,htkc,nb,nb2,c3]
      have hsz1:(⟨#[69]⟩:ByteArray).size=1:=rfl
      rw[if_pos (by omega)]
      have nR8:¬ R=S4.nx+8:=by omega
      simp[h,S1_n,S1_gl,S1_md,R_S1,n1,n2,hbb,S2_n,S2_gl,S2_md,S2_rd,b_S2,hAl2,f1,f2,f3,hdr,htk,hd2,hd3,S3_n,S3_gl,S3_md,S3_rd,b_S3,h0,h3,hn,hg,hmd,hrd,S4_n,S4_gl,S4_md,S4_rd,bb_S4,hcl,htkc,nb,nb2,c3,hab,nR8]
      have hS4:∀ x,S0.nx≤x→x<S.nx→S4.B x=S.B x:=fun x k1 k2=>by
        have a4:=hG4.old x (by first | omega | (simp;omega)) (by omega)
        simpa using a4
      refine⟨⟨E0++[⟨⟨#[69]⟩++sN,2,[],[⟨#[65]⟩]⟩],n+1,S4.nx+8,q+1,rfl,?_,by simp;omega,by simp;omega,by omega,?_,fun y k1 k2=>?_,fun y k1=>?_,by omega,⟨rfl,rfl⟩⟩,by omega⟩
      · intro x hx
        rcases List.mem_append.1 hx with hx | hx
        · exact hE x hx
        · rw[List.mem_singleton] at hx
          subst hx
          have hz:((⟨#[69]⟩:ByteArray)++sN).size≤3:=by rw[ByteArray.size_append];omega
          refine⟨⟨Nat.le_trans hz (by omega),by simp,by simp;decide⟩,fun e=>?_,fun e=>?_⟩
          · have e:(⟨#[69]⟩:ByteArray)++sN=freshS:=e
            rw[e] at hz;exact absurd hz (by decide)
          · have e:(⟨#[69]⟩:ByteArray)++sN=nobodyS:=e
            rw[e] at hz;exact absurd hz (by decide)
      · rw[← List.append_assoc]
        refine LstF.add (S:=S4) (hLst.keep hS4 (Nat.le_refl _) (Nat.le_refl _)) bb_S4 ?_ ?_ (by omega) (by omega)
        · simp[Def.cells,fldsCells]
        · intro x k1 k2 k3
          simp[k1,k2]
      · have z3:¬ y=S4.nx+8:=by omega
        have z4:¬ y=bb:=by omega
        rw[if_neg z3,if_neg z4]
        have a4:=hG4.old y (by simp;omega) k2
        simp at a4
        exact a4.trans (hrO2 y k1 k2)
      · have a4:=hG4.T y (by simp;omega)
        simp at a4
        exact a4.trans (hrT2 y k1)
    · simp[h,S1_n,S1_gl,S1_md,R_S1,n1,n2,hbb,S2_n,S2_gl,S2_md,S2_rd,b_S2,hAl2,f1,f2,f3,hdr,htk,hd2,hd3,S3_n,S3_gl,S3_md,S3_rd,b_S3,h0,h3,hn,hg,hmd,hrd,S4_n,S4_gl,S4_md,S4_rd,bb_S4,hcl,htkc,nb,nb2,c3]
      refine⟨schemaL++E0,LstF.g (hLst.keep (fun x k1 k2=>?_) (Nat.le_refl _) (by omega)),?_,by simp[hlen];omega,q+1,⟨rfl,rfl,rfl,by simp;omega,S4_rd,fun y k1 k2=>?_,fun y k1=>?_, .nil⟩,by omega⟩
      · have a4:=hG4.old x (by first | omega | (simp;omega)) (by omega)
        simpa using a4
      · intro x hx
        rcases List.mem_append.1 hx with hx | hx
        · exact schema_k x hx
        · exact hE x hx
      · have a4:=hG4.old y (by simp;omega) k2
        simp at a4 ⊢
        exact a4.trans ((hrO2 y k1 k2).trans ((by rw[hSr]:Sr.B y=S1.B y).trans (S1_o y k1)))
      · have a4:=hG4.T y (by simp;omega)
        simp at a4 ⊢
        exact a4.trans ((hrT2 y k1).trans ((by rw[hSr]:Sr.T y=S1.T y).trans (S1_t y k1)))
  · have m0:¬ m=0:=by omega
    have m1:¬ (m:Int)=1:=by omega
    have m2:¬ (m:Int)=2:=by omega
    have m3:¬ (m:Int)=3:=by omega
    have m4:¬ (m:Int)=4:=by omega
    have m5:¬ (m:Int)=5:=by omega
    have m6:¬ (m:Int)=6:=by omega
    have m7:¬ (m:Int)=7:=by omega
    have m8:¬ (m:Int)=8:=by omega
    simp[h,S1_n,S1_gl,S1_md,R_S1,n1,n2,hbb,S2_n,S2_gl,S2_md,S2_rd,b_S2,hAl2,f1,f2,f3,hdr,htk,hd2,hd3,S3_n,S3_gl,S3_md,S3_rd,b_S3,m0,m1,m2,m3,m4,m5,m6,m7,m8]
    refine⟨schemaL,LstF.g ?_,schema_k,by decide,p+2,⟨rfl,rfl,rfl,by simp;omega,by simp[h,S1_n,S1_gl,S1_md,R_S1,n1,n2,hbb,S2_n,S2_gl,S2_md,S2_rd,b_S2,hAl2,f1,f2,f3,hdr,htk,hd2,hd3,S3_n,S3_gl,S3_md,S3_rd,b_S3],?_,?_, .nil⟩,by omega⟩
    · rw[hL]
      refine fin _ _ [.d (dS d.name), .d (dI d.kind),f.sv,w0.sv] d (by first | omega | (simp;done)|(simp;omega)) (by simp[h,S1_n,S1_gl,S1_md,R_S1,n1,n2,hbb,S2_n,S2_gl,S2_md,S2_rd,b_S2,hAl2,f1,f2,f3,hdr,htk,hd2,hd3,S3_n,S3_gl,S3_md,S3_rd,b_S3]) (fun p hp=>?_) (fun B' hB'=>?_)
      · obtain⟨a1,a2,a3,a4⟩:=hvb p (hvAZ p hp)
        simp
        exact (S3_o _ a3 (by omega)).trans (by rw[hSr])
      · refine mapO4 rfl rfl (fzf B' fun p hp=>?_) (fzw B' fun p hp=>?_)
        case' refine_1=>obtain⟨a1,a2,a3,a4⟩:=hvb p (hvf p hp)
        case' refine_2=>obtain⟨a1,a2,a3,a4⟩:=hvb p (hvw p hp)
        all_goals
          rw[hB' _ a2 (by first | omega | (simp;done)|(simp;omega)) a1]
          simp
          exact ((S3_o _ a3 (by omega)).trans (by rw[hSr])).trans a4
    · intro y k1 k2
      have a3:=S3_o y (by omega) k2
      simp
      exact a3.trans ((by rw[hSr]:Sr.B y=S1.B y).trans (S1_o y k1))
    · intro y k1
      have a3:=S3_t y (by omega)
      simp
      exact a3.trans ((by rw[hSr]:Sr.T y=S1.T y).trans (S1_t y k1))
structure Drawn (S0 S':St) (r:SV) (L:List Def):Prop where
  n:S'.n=S0.n
  gl:S'.gl=S0.gl
  md:S'.md=S0.md
  nx:S0.nx≤S'.nx
  lst:LstG S' S0.nx S'.nx r L
  k:∀ d∈L,DefK d
  len:L.length≤20
set_option maxHeartbeats 4000000 in
theorem l_draw (S0:St) (c:List UInt8) (hc:c.length≤140737488351232):∃ r S',LCall Tryz.prog 13 [.d (codeD c)] S0 r S'∧∃ L,Drawn S0 S' r L:=by
  have hco:(codeOf c).length≤2000:=by simp[codeOf];omega
  refine LCall.ex_ (md:=[]) Tryz.func13 rfl (by kernel_rfl) (by kernel_rfl) (n:=6) Tryz.ntmps13 (by simp) (by decide) rfl ?_
  simp
  obtain⟨id,i1,i2,hL⟩:=l_open (({ B:=S0.B,T:=S0.T,n:=6,nx:=S0.nx,md:=[],gl:=S0.gl }:St).adv 1 |>.adv 4) c hc
  refine CallT.l hL rfl ?_
  simp
  refine CallT.x (l_any (codeOf c) hco _ id 0 (by simp at i2 ⊢;omega) (by simp) (by omega)) rfl (fun r1 S1 h1=>?_)
  obtain⟨L,hl,hk,hlen,q,hG,_⟩:=h1
  have S1_n:=hG.n
  have S1_gl:=hG.gl
  have S1_md:=hG.md
  have S1_nx:=hG.nx
  simp at S1_n S1_gl S1_md S1_nx
  obtain⟨l1,l2,l3⟩:r1.one=true∧r1.cells=[r1]∧r1.cell=true:=by
    obtain⟨b,cs,M,rfl,_⟩:=hl.of
    exact⟨rfl,rfl,rfl⟩
  simp[S1_n,S1_gl,S1_md,l1,l2,l3]
  refine⟨L,rfl,rfl,rfl,(by first | omega | (simp;done)|(simp;omega)),hl.keep (fun x k1 k2=>by simp) (by first | omega | (simp;done)|(simp;omega)) (by first | omega | (simp;done)|(simp;omega)),hk,hlen⟩
theorem at_once {L:List Def} (hn:(defNames L).Nodup) {i:Nat} (hi:i<L.length):atD L L[i].name=some i:=by
  cases h:atD L L[i].name with
  | none=>exact absurd (List.mem_map_of_mem (List.getElem_mem hi)) (atD_none_iff.1 h)
  | some j =>
    obtain⟨hj,hjn⟩:=at_mem h
    have hp:=List.pairwise_iff_getElem.1 hn
    have hl:(defNames L).length=L.length:=List.length_map ..
    have e:∀ k (hk:k<L.length),(defNames L)[k]'(by rw[hl];exact hk)=L[k].name:=fun k hk=>by simp
    rcases Nat.lt_trichotomy j i with h1 | h1 | h1
    · exact absurd (by rw[e j hj,e i hi,hjn]) (hp j i (by rw[hl];exact hj) (by rw[hl];exact hi) h1)
    · rw[h1]
    · exact absurd (by rw[e j hj,e i hi,hjn]) (hp i j (by rw[hl];exact hi) (by rw[hl];exact hj) h1)
theorem kind_once {L:List Def} (hn:(defNames L).Nodup) {i:Nat} (hi:i<L.length):defL L L[i].name=L[i]:=by
  rw[defL_some (at_once hn hi)]
abbrev nullV:Val:=.mk 0 0 ⟨#[]⟩ [] []
theorem typB_name {s:ByteArray} (h:nameB s=true) (b:Bool):typB (.mk s [] b) 3=true:=by
  have hs:s≠noS:=fun e=>by rw[e] at h;exact absurd h (by decide)
  unfold typB
  rw[if_neg hs,h]
  rfl
theorem names_fit {L:List Def} (hz:checkB L=0) {i:Nat} (hi:i<L.length):valB L (.mk L[i].name [] false) nullV=(decide (L[i].kind=2) || decide (L[i].kind=3)):=by
  obtain⟨_,a2,a3,_⟩:=check_zero.1 hz
  have hd:=List.all_eq_true.1 a2
  have hm:=List.getElem_mem hi
  have hk:=kind_once ((sch_once L).1 a3) hi
  obtain⟨hn,hg⟩:=form_name hd _ hm
  have h1:L[i].name≠noS:=fun e=>by rw[e] at hn;exact absurd hn (by decide)
  unfold valB
  rw[hz,typB_name hn,baseT_name h1,fitsB_eq]
  unfold givenB kindL
  rw[hg,hk]
  have:okB nullV 6 true=true:=by decide +kernel
  rw[this]
  simp
theorem words_some {d:Def} (h:defB d=true) (hk:d.kind=4):d.words≠[]:=by
  unfold defB at h
  simp only[Bool.and_eq_true] at h
  have h2:=h.2
  rw[hk,if_neg (by decide),if_pos (by decide)] at h2
  simp only[Bool.and_eq_true,decide_eq_true_eq] at h2
  intro e
  rw[e] at h2
  simp at h2
theorem names_meet {L:List Def} (hz:checkB L=0) {i:Nat} (hi:i<L.length):meetB L L[i].name L[i].name = !(decide (L[i].kind=2) || decide (L[i].kind=3)):=by
  obtain⟨_,a2,a3,_⟩:=check_zero.1 hz
  have hd:=List.all_eq_true.1 a2
  have hm:=List.getElem_mem hi
  have hk:=kind_once ((sch_once L).1 a3) hi
  unfold meetB meetN objsL kindL
  rw[hz,hk]
  rcases form_kind hd _ hm with h | h | h | h
  · rw[h];simp[memB]
  · rw[h];simp
  · rw[h];simp
  · rw[h]
    obtain⟨w,r,hw⟩:=List.exists_cons_of_ne_nil (words_some (hd _ hm) h)
    rw[hw]
    simp[memB]
theorem nobody_not {L:List Def} (hz:checkB L=0) (hn:∀ d∈L,d.name≠nobodyS):valB L (.mk nobodyS [] false) nullV=false:=by
  have h0:kindL L nobodyS=0:=by
    cases ha:atD L nobodyS with
    | none=>rw[kindL,defL_none ha];rfl
    | some j =>
      obtain⟨hj,hjn⟩:=at_mem ha
      exact absurd hjn (hn _ (List.getElem_mem hj))
  unfold valB givenB
  rw[baseT_name (by decide),h0]
  have:groundB nobodyS=false:=by decide +kernel
  rw[this]
  simp
theorem int_num {L:List Def} (hz:checkB L=0):valB L (.mk intS [] false) (.mk 2 5 ⟨#[]⟩ [] [])=true:=by
  unfold valB
  rw[hz,fitsB_eq,baseT_name (by decide)]
  have h1:typB (.mk intS [] false) 3=true:=by decide +kernel
  have h2:okB (.mk 2 5 ⟨#[]⟩ [] []) 6 true=true:=by decide +kernel
  have h3:groundB intS=true:=by decide +kernel
  rw[h1,h2]
  unfold givenB fitsS
  rw[h3]
  simp
theorem int_text {L:List Def}:valB L (.mk intS [] false) (.mk 3 0 ⟨#[53]⟩ [] [])=false:=by
  unfold valB
  rw[fitsB_eq]
  unfold fitsS
  simp
theorem frz_v {B:Nat→Option (List SV)}{k:Nat}{s:SV}{u:Value} (h:frz B k s=some (.v u)):s=.d (.v u):=by
  cases k with
  | zero=>cases h
  | succ k =>
    cases s<;>simp only[frz] at h
    all_goals first | (cases h;rfl)|(cases h;done)|(split at h<;>first | (cases h;done)|(simp at h;done))|(simp at h;done)
set_option maxHeartbeats 16000000 in
theorem p_lawFnSchemaNames (c:List UInt8) (hc:c.length≤140737488351232):PCall Tryz.prog gl 3 [codeD c] (dB true):=by
  refine PCall.by_ (md:=[]) Tryz.func3 rfl (by kernel_rfl) (n:=87) Tryz.ntmps3 (by simp) (by decide) rfl ?_
  simp
  refine BrT.dec (fun hbig=>?_) (fun hbig=>?_)
  case refine_1=>simp[hbig]
  simp[hbig]
  refine CallT.x (l_draw _ c hc) rfl (fun r1 S1 h1=>?_)
  obtain⟨L,hD⟩:=h1
  obtain⟨b,cs,M,rfl,g2,g3,g4,g5⟩:=hD.lst.of
  have hlen:=hD.len
  have S1_n:=hD.n
  have S1_gl:=hD.gl
  have S1_md:=hD.md
  have S1_nx:=hD.nx
  simp at S1_n S1_gl S1_md S1_nx g2
  have hfr:∀ S:St,(∀ x,x<S1.nx→S.B x=S1.B x)→frz S.B 13 (.sk b L.length 4)=some (.ps (defsCells L++M) L.length):=fun S w1=>by
    rw[frz,w1 b g3,g4]
    show Option.map (fun ds=>D.ps ds L.length) (mapO (frz S.B 12) cs)=_
    rw[g5 S.B fun x _ k2 _=>w1 x k2];rfl
  have hfz:∀ S:St,(∀ x,x<S1.nx→S.B x=S1.B x)→mapO (frz S.B 13) [SV.sk b L.length 4]=some [.ps (defsCells L++M) L.length]:=fun S w1=>by
    simp[hfr S w1]
  have hsm:∀ d∈L,DefSm d:=fun d hd=>(hD.k d hd).1
  have c1:=fun gl=>PCall.cut (M:=M) (p_imCheck (gl:=gl) L (by omega) hsm)
  have c2:=fun gl=>PCall.cut (M:=M) (p_spCheck (gl:=gl) L (by omega) hsm)
  simp[hbig,S1_n,S1_gl,S1_md]
  refine CallT.l (LCall.ofP (k:=13) (c1 _) (hfz _ fun _ _=>rfl)) rfl ?_
  simp[hbig,S1_n,S1_gl,S1_md]
  refine CallT.l (LCall.ofP (k:=13) (c2 _) (hfz _ fun _ _=>rfl)) rfl ?_
  simp[hbig,S1_n,S1_gl,S1_md]
  by_cases hz:checkB L=0
  case neg =>
    simp[hbig,S1_n,S1_gl,S1_md,hz]
    refine CallT.l (LCall.ofP (k:=13) (c2 _) (hfz _ fun _ _=>rfl)) rfl ?_
    simp[hbig,S1_n,S1_gl,S1_md]
  have hcl:=(mapO_get (g5 S1.B fun _ _ _ _=>rfl)).1
  rw[List.length_append,defs_len] at hcl
  have hat:∀ j (hj:j<L.length*4),∃ (h:j<cs.length),Go.Sh.frz S1.B 12 cs[j]=some ((defsCells L)[j]'(by rw[defs_len];exact hj)):=fun j hj=>by
    have h1:j<cs.length:=by omega
    refine⟨h1,?_⟩
    have h2:=(mapO_get (g5 S1.B fun _ _ _ _=>rfl)).2 j h1 (by rw[List.length_append,defs_len];omega)
    rw[h2,List.getElem_append_left]
  have hfit:∀ (t:Typ) (v:Val),TLe 4611686018427387904 t→WF v→∀ gl,PCall Tryz.prog gl 16 [.ps (defsCells L++M) L.length,t.d,v.d] (dB (valB L t v)):=fun t v h1 h2 gl=>PCall.cut (p_imFits (gl:=gl) L (by omega) hsm t h1 v h2)
  have hmeet:∀ (a c:ByteArray) gl,PCall Tryz.prog gl 17 [.ps (defsCells L++M) L.length,dS a,dS c] (dB (meetB L a c)):=fun a c gl=>PCall.cut (p_imMeet (gl:=gl) L (by omega) hsm a c)
  have hz3:∀ (S:St),(∀ x,x<S1.nx→S.B x=S1.B x)→∀ (nm:ByteArray) (bm:Bool) (k n:Int) (s:ByteArray),mapO (frz S.B 13) [SV.sk b L.length 4, .ag [.d (dS nm), .fl [] 0, .d (dB bm)], .ag [.d (dI k), .d (dI n), .d (dS s), .fl [] 0, .fl [] 0]]=some [.ps (defsCells L++M) L.length,Typ.d (.mk nm [] bm),Val.d (.mk k n s [] [])]:=fun S w1 nm bm k n s=>by
    simp[hfr S w1,Typ.cells,Val.cells,typsCells,valsCells]
  have hT0:∀ nm:ByteArray,nm.size≤1048576→TLe 4611686018427387904 (.mk nm [] false):=fun nm h=>.mk (by omega) (by simp) (by simp)
  have hV0:∀ (k n:Int) (s:ByteArray),s.size≤1048576→WF (.mk k n s [] []):=fun k n s h=>small_wf (small0 h)
  have hz2:∀ (S:St),(∀ x,x<S1.nx→S.B x=S1.B x)→∀ (a c:ByteArray),mapO (frz S.B 13) [SV.sk b L.length 4, .d (dS a), .d (dS c)]=some [.ps (defsCells L++M) L.length,dS a,dS c]:=fun S w1 a c=>by
    simp[hfr S w1]
  have v1:=nobody_not hz (fun d hd=>(hD.k d hd).2.2)
  have v2:=int_num hz
  have v3:=int_text (L:=L)
  simp[hbig,S1_n,S1_gl,S1_md,hz]
  refine LoopT.round (fun E S=>∃ (i:Nat),(i≤L.length)∧(∀ x,x<S1.nx→S.B x=S1.B x)∧(S1.nx≤S.nx)∧E 3=some (.sk b L.length 4)∧E 5=some (.d (dI i))) (upTo 5 L.length) ⟨0,by simp[hbig,S1_n,S1_gl,S1_md]⟩ ?_
  rintro E S hk ⟨i,hi,hB,hnx,h3,h5⟩
  have hn:S.n=87:=by first | (simpa using hk.n)|(have hh:=hk.n;simp[hbig,S1_n,S1_gl,S1_md] at hh;exact hh)
  have hg:S.gl=gl:=by first | (simpa using hk.gl)|(have hh:=hk.gl;simp[hbig,S1_n,S1_gl,S1_md] at hh;exact hh)
  have hmd:S.md=[]:=by first | (simpa using hk.md)|(have hh:=hk.md;simp[hbig,S1_n,S1_gl,S1_md] at hh;exact hh)
  simp[hbig,S1_n,S1_gl,S1_md,h3,h5,hn,hg,hmd]
  have hBb:=(hB b g3).trans g4
  have w:=wrap64 (n:=(i:Int)+1) (by omega) (by omega)
  refine BrT.dec (fun c9=>?_) (fun c9=>?_)
  · have hi2:i<L.length:=by omega
    have hlen4:=defs_at L hi2
    obtain⟨q0,hq0⟩:=hat (i*4) (by omega)
    obtain⟨q1,hq1⟩:=hat (i*4+1) (by omega)
    have hlen4:List.take 4 (List.drop (i*4) (defsCells L))=[dS L[i].name,dI L[i].kind,fldsD L[i].flds,namesD L[i].words]:=hlen4
    have g0:=row_get0 hlen4 (by decide) rfl
    have g1:=row_get hlen4 1 (by decide) rfl
    have hc0:cs[i*4]=.d (dS L[i].name):=frz_v (hq0.trans (by rw[(List.getElem?_eq_some_iff.1 g0).2]))
    have hc1:cs[i*4+1]=.d (dI L[i].kind):=frz_v (hq1.trans (by rw[(List.getElem?_eq_some_iff.1 g1).2]))
    have hi2':(i:Int)<L.length:=by omega
    have nb6:¬ b=S.nx+4+6:=by omega
    have hnm:=(hsm _ (List.getElem_mem hi2)).1
    have f1:=names_fit hz hi2
    have f2:=names_meet hz hi2
    have hkd:=form_kind (List.all_eq_true.1 (check_zero.1 hz).2.1) _ (List.getElem_mem hi2)
    have old:∀ (x:Nat),x<S1.nx→¬ x=S.nx+4+6:=fun x hx=>by omega
    rcases hkd with hk | hk | hk | hk
    all_goals
      rw[hk] at f1 f2
      simp at f1 f2
      simp[hbig,S1_n,S1_gl,S1_md,h3,h5,hn,hg,hmd,c9,hBb,hi2,hi2',q0,q1,hc0,hc1,w,nb6,hk]
      refine CallT.l (LCall.ofP (k:=13) (hfit (.mk L[i].name [] false) nullV (hT0 _ hnm) (hV0 _ _ _ (by decide)) _) (hz3 _ (fun x hx=>by have:=old x hx;simpa[this] using hB x hx) _ _ _ _ _)) rfl ?_
      simp[hbig,S1_n,S1_gl,S1_md,h3,h5,hn,hg,hmd,c9,hBb,hi2,hi2',q0,q1,hc0,hc1,w,nb6,hk,f1]
      refine CallT.l (LCall.ofP (k:=13) (hmeet L[i].name L[i].name _) (hz2 _ (fun x hx=>by have:=old x hx;simpa[this] using hB x hx) _ _)) rfl ?_
      simp[hbig,S1_n,S1_gl,S1_md,h3,h5,hn,hg,hmd,c9,hBb,hi2,hi2',q0,q1,hc0,hc1,w,nb6,hk,f2]
      refine⟨⟨i+1,hi2,fun x hx=>?_,by omega,by omega⟩,upTo_lt h5 (by simp) hi2⟩
      rw[if_neg (old x hx)]
      first | exact hB x hx | (rw[if_neg (old x hx)];exact hB x hx)|(have:=old x hx;simpa[this] using hB x hx)
  · simp[hbig,S1_n,S1_gl,S1_md,h3,h5,hn,hg,hmd,c9]
    refine CallT.l (LCall.ofP (k:=13) (hfit (.mk nobodyS [] false) nullV (hT0 _ (by decide)) (hV0 _ _ _ (by decide)) _) (hz3 _ (fun x hx=>by simpa using hB x hx) _ _ _ _ _)) rfl ?_
    simp[hbig,S1_n,S1_gl,S1_md,h3,h5,hn,hg,hmd,c9,v1]
    refine CallT.l (LCall.ofP (k:=13) (hfit (.mk intS [] false) (.mk 2 5 ⟨#[]⟩ [] []) (hT0 _ (by decide)) (hV0 _ _ _ (by decide)) _) (hz3 _ (fun x hx=>by simpa using hB x hx) _ _ _ _ _)) rfl ?_
    simp[hbig,S1_n,S1_gl,S1_md,h3,h5,hn,hg,hmd,c9,v2]
    refine CallT.l (LCall.ofP (k:=13) (hfit (.mk intS [] false) (.mk 3 0 ⟨#[53]⟩ [] []) (hT0 _ (by decide)) (hV0 _ _ _ (by decide)) _) (hz3 _ (fun x hx=>by simpa using hB x hx) _ _ _ _ _)) rfl ?_
    simp[hbig,S1_n,S1_gl,S1_md,h3,h5,hn,hg,hmd,c9,v3]
end Go.Proofs.YtlmpjblmmpddeaaGreat
