/- Uh and what follows it, one behind another. -/
import Derived.Test.YtlmpjblmmpddeaaGreatMg8
import Derived.Test.YtlmpjblmmpddeaaGreatMg7
set_option linter.unusedVariables false
set_option linter.unusedSimpArgs false
set_option maxRecDepth 100000
namespace Go.Proofs.YtlmpjblmmpddeaaGreat
open Go.Sh
variable {gl:Nat→Option D}
def RowD (X:SV) (cs:List D) (n:Nat):Prop:=X=.d (.ps cs n)∨X=.fl cs n∨∃ i q,X=.tp i q cs n
theorem RowD.one {X:SV}{cs:List D}{n:Nat} (h:RowD X cs n):X.one=true∧X.cells=[X]∧X.cell=true:=by rcases h with rfl | rfl | ⟨i,q,rfl⟩<;>exact⟨rfl,rfl,rfl⟩
theorem RowD.toD {X:SV}{cs:List D}{n:Nat} (h:RowD X cs n):X.toD=some (.ps cs n):=by rcases h with rfl | rfl | ⟨i,q,rfl⟩<;>rfl
theorem RowD.frz {X:SV}{cs:List D}{n:Nat} (h:RowD X cs n) (B:Nat→Option (List SV)) (k:Nat):Go.Sh.frz B (k+1) X=some (.ps cs n):=by rcases h with rfl | rfl | ⟨i,q,rfl⟩<;>rfl
theorem AccD.rowD {sz:Nat}{S:St}{X:SV}{cs:List D}{n:Nat} (h:AccD sz S X cs n):RowD X cs n:=by
  rcases h with ⟨rfl,rfl,rfl⟩ | ⟨_,i,_,rfl,_⟩
  · exact .inr (.inl rfl)
  · exact .inr (.inr ⟨_,_,rfl⟩)
theorem RowD.lenT {P:Program}{S:St}{dr:Bool}{A:Ar}{T:TypeId}{K:Bool→SV→Eff→Prop}{X:SV}{cs:List D}{n:Nat} (h:RowD X cs n):@LenT P S dr A T K (some X)=OpT (lenE P T (some (.d (.ps cs n)))) K:=by
  rcases h with rfl | rfl | ⟨i,q,rfl⟩<;>simp<;>rfl
inductive ValQ:SV→Val→Prop
  | mk {k m:Int} {s:ByteArray} {l:List Val} {ns:List ByteArray} {X Y:SV} (hX:RowD X (valsCells l) l.length) (hY:RowD Y (ns.map dS) ns.length):ValQ (.ag [.d (dI k), .d (dI m), .d (dS s),X,Y]) (.mk k m s l ns)
theorem ValQ.frz {r:SV}{v:Val} (h:ValQ r v) (B:Nat→Option (List SV)):Go.Sh.frz B 3 r=some v.d:=by
  obtain⟨hX,hY⟩:=h
  have hx:=hX.frz B 1
  have hy:=hY.frz B 1
  simp only[Go.Sh.frz,mapO] at hx hy ⊢
  rw[hx,hy]
  simp[Val.cells]
theorem ValR.q {S:St}{r:SV}{v:Val} (h:ValR S r v):ValQ r v:=by
  obtain⟨hX,hY⟩:=h
  exact .mk hX.rowD hY.rowD
def rowN:SV→Nat
  | .fl _ n=>n
  | .tp _ _ _ n=>n
  | _=>0
theorem AccD.rowN {sz:Nat}{S:St}{X:SV}{cs:List D}{n:Nat} (h:AccD sz S X cs n):Go.Proofs.YtlmpjblmmpddeaaGreat.rowN X=n:=by
  rcases h with ⟨rfl,rfl,rfl⟩ | ⟨_,i,_,rfl,_⟩<;>rfl
structure GotQ (S S':St) (R:Nat) (rc:List SV):Prop where
  n:S'.n=S.n
  gl:S'.gl=S.gl
  md:S'.md=S.md
  nx:S.nx≤S'.nx
  rd:S'.B R=some rc
  old:∀ x,x<S.nx→x≠R→S'.B x=S.B x
set_option maxHeartbeats 32000000 in
theorem l_any13 (c:List UInt8) (hc:c.length≤2000) (S0:St) (R p:Nat) (hR:R<S0.nx) (h:S0.B R=some (rdP c p)) (hp:p≤800000) :
    ∃ r S',LCall Tryz.prog 75 [.op R 0] S0 r S'∧∃ v:Val,ValQ r v∧WF v∧∃ q,GotQ S0 S' R (rdP c q)∧q≤p+20000:=by
  refine LCall.ex_ (md:=[]) Tryz.func75 rfl (by kernel_rfl) (by kernel_rfl) (n:=73) Tryz.ntmps75 (by simp) (by decide) rfl ?_
  simp
  generalize hu:S0.nx=u at *
  have n1:¬ R=u:=by omega
  have n2:¬ u=R:=by omega
  obtain⟨N,hN⟩:∃ N,u=N:=⟨_,rfl⟩
  obtain⟨Sr,hSr⟩:∃ Sr,S0=Sr:=⟨_,rfl⟩
  have hrO:∀ y,y<N→y≠R→S0.B y=Sr.B y:=fun y _ _=>by rw[hSr]
  have hrT:∀ y,y<N→S0.T y=Sr.T y:=fun y _=>by rw[hSr]
  refine CallT.x (x_one _ R c p _ [1,2,3,3,6] (.inl rfl) (by simp) (by simp) (by first | omega | (simp;omega)) (by simp[h,n1]) hc (by omega)) rfl (fun r1 S1 h1=>?_)
  obtain⟨q1,hG1⟩:=h1
  subst q1
  have S1_n:=hG1.n
  try simp at S1_n
  have S1_gl:=hG1.gl
  try simp at S1_gl
  have S1_md:=hG1.md
  try simp at S1_md
  have S1_nx:=hG1.nx
  try simp at S1_nx
  have S1_rd:=hG1.rd
  have u_S1:=hG1.old u (by first | omega | (simp;omega)) (by omega)
  try simp at u_S1
  have S1_o:∀ y,y<N→y≠R→S1.B y=Sr.B y:=fun y k1 k2=>by
    have a1:=hG1.old y (by first | omega | (simp;omega)) k2
    have y1:¬ y=u:=by omega
    try simp[y1] at a1
    exact a1.trans (hrO y k1 k2)
  have S1_t:∀ y,y<N→S1.T y=Sr.T y:=fun y k1=>by
    have a1:=hG1.T y (by first | omega | (simp;omega))
    try simp at a1
    exact a1.trans (hrT y k1)
  obtain⟨d,hd,hd6⟩:∃ d:Nat,oneK c p [1,2,3,3,6]=d∧d≤6:=by
    have:=oneK_mem c p (l:=[1,2,3,3,6]) (by simp)
    simp at this
    rcases this with h | h | h | h
    · exact⟨1,h,by omega⟩
    · exact⟨2,h,by omega⟩
    · exact⟨3,h,by omega⟩
    · exact⟨6,h,by omega⟩
  rw[hd]
  have hpb:pB d≤10000:=by
    have:d=0∨d=1∨d=2∨d=3∨d=4∨d=5∨d=6:=by omega
    rcases this with rfl | rfl | rfl | rfl | rfl | rfl | rfl<;>decide
  simp[S1_n]
  refine CallT.x (l_value13 c hc d _ R (p+1) (by first | omega | (simp;omega)) (by simp[S1_rd]) (by omega) (by omega)) rfl (fun r2 S2 h2=>?_)
  obtain⟨v,hv,hvs,q2,hG2,hq2⟩:=h2
  have S2_n:=hG2.n
  try simp[S1_n] at S2_n
  have S2_gl:=hG2.gl
  try simp[S1_gl] at S2_gl
  have S2_md:=hG2.md
  try simp[S1_md] at S2_md
  have S2_nx:=hG2.nx
  try simp[h,n1,n2,S1_n,S1_gl,S1_md,S1_rd,u_S1,S2_n,S2_gl,S2_md] at S2_nx
  have S2_rd:=hG2.rd
  have u_S2:=hG2.old u (by first | omega | (simp;omega)) (by omega)
  try simp[u_S1] at u_S2
  have S2_o:∀ y,y<N→y≠R→S2.B y=Sr.B y:=fun y k1 k2=>by
    have a1:=hG2.old y (by first | omega | (simp;omega)) k2
    have y1:¬ y=u:=by omega
    try simp[y1] at a1
    exact a1.trans (S1_o y k1 k2)
  have S2_t:∀ y,y<N→S2.T y=Sr.T y:=fun y k1=>by
    have a1:=hG2.T y (by first | omega | (simp;omega))
    try simp at a1
    exact a1.trans (S1_t y k1)
  obtain⟨hX,hY⟩:=hv
  rename_i k m s l ns X Y
  obtain⟨x1,x2,x3⟩:=hX.one
  obtain⟨y1,y2,y3⟩:=hY.one
  simp[S2_n]
  obtain⟨w,hw⟩:∃ w,u+1+5=w:=⟨_,rfl⟩
  rw[hw]
  have m1:¬ R=w:=by omega
  have m2:¬ w=R:=by omega
  have m3:¬ u=w:=by omega
  have m4:¬ w=u:=by omega
  refine CallT.x (x_pick _ R c q2 16 (by first | omega | (simp;omega)) (by simp[S2_rd,m1]) hc (by omega) (by omega) (by omega)) rfl (fun r3 S3 h3=>?_)
  obtain⟨q3,hG3⟩:=h3
  subst q3
  have S3_n:=hG3.n
  try simp[S2_n] at S3_n
  have S3_gl:=hG3.gl
  try simp[S2_gl] at S3_gl
  have S3_md:=hG3.md
  try simp[S2_md] at S3_md
  have S3_nx:=hG3.nx
  try simp at S3_nx
  have S3_rd:=hG3.rd
  have u_S3:=hG3.old u (by first | omega | (simp;omega)) (by omega)
  try simp[u_S2,m3] at u_S3
  have w_S3:=hG3.old w (by first | omega | (simp;omega)) (by omega)
  try simp at w_S3
  have S3_o:∀ y,y<N→y≠R→S3.B y=Sr.B y:=fun y k1 k2=>by
    have a1:=hG3.old y (by first | omega | (simp;omega)) k2
    have y1:¬ y=u:=by omega
    have y2:¬ y=w:=by omega
    try simp[y2] at a1
    exact a1.trans (S2_o y k1 k2)
  have S3_t:∀ y,y<N→S3.T y=Sr.T y:=fun y k1=>by
    have a1:=hG3.T y (by first | omega | (simp;omega))
    try simp at a1
    exact a1.trans (S2_t y k1)
  have hX3:AccD 5 S3 X (valsCells l) l.length:=hX.mono (by omega) (fun i hi=>hG3.T i (by first | omega | (simp;omega)))
  have hY3:AccD 1 S3 Y (ns.map dS) ns.length:=hY.mono (by omega) (fun i hi=>hG3.T i (by first | omega | (simp;omega)))
  have hsm:∀ (k m:Int) (s:ByteArray),s.size≤1048576→WF (.mk k m s l ns):=fun k m s h=>by
    cases small_wf hvs with
    | mk ht hn hl h'=>exact .mk (by omega) hn hl h'
  have hs0:s.size≤1048576:=by
    cases hvs with
    | mk ht hn hns hl h'=>exact ht
  obtain⟨hl6,hns6⟩:l.length≤1048576∧ns.length≤1048576:=by
    cases hvs with
    | mk ht hn hns hl h'=>exact⟨hl,hn⟩
  have hvW:=small_wf hvs
  have hWl:∀ v∈l,WF v:=by
    cases small_wf hvs with
    | mk ht hn hl h'=>exact h'
  clear hX hY
  have hk16:=pickK_lt c q2 16 (by omega)
  generalize pickK c q2 16=k16 at hk16
  simp[S3_n]
  refine BrT.dec (fun e0=>?_) (fun e0=>?_)
  · simp[S3_n,S3_md,e0]
    refine CallT.x (x_one _ R c (q2+1) _ [-1,8,6,7,4,5] (.inl rfl) (by simp) (by simp) (by first | omega | (simp;omega)) (by simp[S3_rd]) hc (by omega)) rfl (fun r4 S4 h4=>?_)
    obtain⟨q4,hG4⟩:=h4
    subst q4
    have S4_n:=hG4.n
    try simp[S3_n] at S4_n
    have S4_gl:=hG4.gl
    try simp[S3_gl] at S4_gl
    have S4_md:=hG4.md
    try simp[S3_md] at S4_md
    have S4_nx:=hG4.nx
    try simp at S4_nx
    have S4_rd:=hG4.rd
    have u_S4:=hG4.old u (by first | omega | (simp;omega)) (by omega)
    try simp[u_S3] at u_S4
    have w_S4:=hG4.old w (by first | omega | (simp;omega)) (by omega)
    try simp[w_S3] at w_S4
    have S4_o:∀ y,y<N→y≠R→S4.B y=Sr.B y:=fun y k1 k2=>by
      have a1:=hG4.old y (by first | omega | (simp;omega)) k2
      have y1:¬ y=u:=by omega
      have y2:¬ y=w:=by omega
      try simp at a1
      exact a1.trans (S3_o y k1 k2)
    have S4_t:∀ y,y<N→S4.T y=Sr.T y:=fun y k1=>by
      have a1:=hG4.T y (by first | omega | (simp;omega))
      try simp at a1
      exact a1.trans (S3_t y k1)
    have hX:=hX3.mono (S':=S4) (by omega) (fun i hi=>hG4.T i (by first | omega | (simp;omega)))
    have hY:=hY3.mono (S':=S4) (by omega) (fun i hi=>hG4.T i (by first | omega | (simp;omega)))
    simp[m3,S4_n,S4_gl,u_S4,w_S4]
    refine⟨.mk (oneK c (q2+1) [-1,8,6,7,4,5]) m s l ns, .mk hX.rowD hY.rowD,hsm _ _ _ hs0,q2+1+1,⟨rfl,rfl,rfl,by simp;omega,by simp[n1,m1,S4_rd],?_⟩,by omega⟩
    intro y k1 k2
    have z1:¬ y=u:=by omega
    have z2:¬ y=w:=by omega
    simp[z1,z2]
    exact (S4_o y (by omega) k2).trans (by rw[hSr])
  · simp[S3_n,e0]
    refine BrT.dec (fun e1=>?_) (fun e1=>?_)
    · simp[S3_n,S3_md,e1]
      refine CallT.x (x_one _ R c (q2+1) _ [2,2147483648, -5] (.inl rfl) (by simp) (by simp) (by first | omega | (simp;omega)) (by simp[S3_rd]) hc (by omega)) rfl (fun r4 S4 h4=>?_)
      obtain⟨q4,hG4⟩:=h4
      subst q4
      have S4_n:=hG4.n
      try simp[S3_n] at S4_n
      have S4_gl:=hG4.gl
      try simp[S3_gl] at S4_gl
      have S4_md:=hG4.md
      try simp[S3_md] at S4_md
      have S4_nx:=hG4.nx
      try simp at S4_nx
      have S4_rd:=hG4.rd
      have u_S4:=hG4.old u (by first | omega | (simp;omega)) (by omega)
      try simp[u_S3] at u_S4
      have w_S4:=hG4.old w (by first | omega | (simp;omega)) (by omega)
      try simp[w_S3] at w_S4
      have S4_o:∀ y,y<N→y≠R→S4.B y=Sr.B y:=fun y k1 k2=>by
        have a1:=hG4.old y (by first | omega | (simp;omega)) k2
        have y1:¬ y=u:=by omega
        have y2:¬ y=w:=by omega
        try simp at a1
        exact a1.trans (S3_o y k1 k2)
      have S4_t:∀ y,y<N→S4.T y=Sr.T y:=fun y k1=>by
        have a1:=hG4.T y (by first | omega | (simp;omega))
        try simp at a1
        exact a1.trans (S3_t y k1)
      have hX:=hX3.mono (S':=S4) (by omega) (fun i hi=>hG4.T i (by first | omega | (simp;omega)))
      have hY:=hY3.mono (S':=S4) (by omega) (fun i hi=>hG4.T i (by first | omega | (simp;omega)))
      simp[m3,S4_n,S4_gl,u_S4,w_S4]
      refine⟨.mk k (oneK c (q2+1) [2,2147483648, -5]) s l ns, .mk hX.rowD hY.rowD,hsm _ _ _ hs0,q2+1+1,⟨rfl,rfl,rfl,by simp;omega,by simp[n1,m1,S4_rd],?_⟩,by omega⟩
      intro y k1 k2
      have z1:¬ y=u:=by omega
      have z2:¬ y=w:=by omega
      simp[z1,z2]
      exact (S4_o y (by omega) k2).trans (by rw[hSr])
    · simp[S3_n,e1]
      refine BrT.dec (fun e2=>?_) (fun e2=>?_)
      · simp[S3_n,e2]
        refine CallT.x (x_pick _ R c (q2+1) 2 (by first | omega | (simp;omega)) (by simp[S3_rd]) hc (by omega) (by omega) (by omega)) rfl (fun r4 S4 h4=>?_)
        obtain⟨q4,hG4⟩:=h4
        subst q4
        have S4_n:=hG4.n
        try simp[S3_n] at S4_n
        have S4_gl:=hG4.gl
        try simp[S3_gl] at S4_gl
        have S4_md:=hG4.md
        try simp[S3_md] at S4_md
        have S4_nx:=hG4.nx
        try simp at S4_nx
        have S4_rd:=hG4.rd
        have u_S4:=hG4.old u (by first | omega | (simp;omega)) (by omega)
        try simp[u_S3] at u_S4
        have w_S4:=hG4.old w (by first | omega | (simp;omega)) (by omega)
        try simp[w_S3] at w_S4
        have S4_o:∀ y,y<N→y≠R→S4.B y=Sr.B y:=fun y k1 k2=>by
          have a1:=hG4.old y (by first | omega | (simp;omega)) k2
          have y1:¬ y=u:=by omega
          have y2:¬ y=w:=by omega
          try simp at a1
          exact a1.trans (S3_o y k1 k2)
        have S4_t:∀ y,y<N→S4.T y=Sr.T y:=fun y k1=>by
          have a1:=hG4.T y (by first | omega | (simp;omega))
          try simp at a1
          exact a1.trans (S3_t y k1)
        have hX:=hX3.mono (S':=S4) (by omega) (fun i hi=>hG4.T i (by first | omega | (simp;omega)))
        have hY:=hY3.mono (S':=S4) (by omega) (fun i hi=>hG4.T i (by first | omega | (simp;omega)))
        have hn4:=pickK_lt c (q2+1) 2 (by omega)
        generalize pickK c (q2+1) 2=n4 at hn4
        have w4:=wrap64 (n:=40+(n4:Int)) (by omega) (by omega)
        simp[S4_n,S4_gl,w4]
        have hmz:(manyS ⟨#[121]⟩ (40+n4)).size=40+n4:=by rw[manyS_size];simp[ByteArray.size]
        repeat refine⟨DrawT.mk (by kernel_rfl),?_⟩
        refine CallT.p0 ((p_many ⟨#[121]⟩ (40+n4) (by simp[ByteArray.size];omega) (by omega) (by decide))) (by first | rfl | (simp;done)|(simp[h,n1,n2,S1_n,S1_gl,S1_md,S1_rd,u_S1,S2_n,S2_gl,S2_md,S2_rd,u_S2,x1,x2,x3,y1,y2,y3,m1,m2,m3,m4,S3_n,S3_gl,S3_md,S3_rd,u_S3,w_S3,e0,e1,e2,S4_n,S4_gl,S4_md,S4_rd,u_S4,w_S4];done)) (by first | rfl | (simp;done)|(simp;rfl)|(simp[h,n1,n2,S1_n,S1_gl,S1_md,S1_rd,u_S1,S2_n,S2_gl,S2_md,S2_rd,u_S2,x1,x2,x3,y1,y2,y3,m1,m2,m3,m4,S3_n,S3_gl,S3_md,S3_rd,u_S3,w_S3,e0,e1,e2,S4_n,S4_gl,S4_md,S4_rd,u_S4,w_S4];done)) ?_
        simp[m3,S4_n,S4_gl,u_S4,w_S4]
        generalize manyS ⟨#[121]⟩ (40+n4)=ms at hmz
        refine⟨.mk k m ms l ns, .mk hX.rowD hY.rowD,hsm _ _ _ (by omega),q2+1+1,⟨rfl,rfl,rfl,by simp;omega,by simp[n1,m1,S4_rd],?_⟩,by omega⟩
        intro y k1 k2
        have z1:¬ y=u:=by omega
        have z2:¬ y=w:=by omega
        simp[z1,z2]
        exact (S4_o y (by omega) k2).trans (by rw[hSr])
      · simp[S3_n,e2]
        refine BrT.dec (fun e3=>?_) (fun e3=>?_)
        · simp[S3_n,e3]
          refine LoopT.round (fun E S=>∃ (n:Nat) (q:Nat) (k:Int) (m:Int) (s:ByteArray) (l:List Val) (ns:List ByteArray) (X:SV) (Y:SV),(S.B R=some (rdP c q))∧(S.B u=some [.d (dI 0), .d (dI 0), .d (dS ⟨#[]⟩), .fl [] 0, .fl [] 0])∧(S.B w=some [.d (dI k), .d (dI m), .d (dS s),X,Y])∧(RowD X (valsCells l) l.length)∧(RowD Y (ns.map dS) ns.length)∧(WF (.mk k m s l ns))∧(n≤7)∧(q≤q2+1+n)∧(∀ y,y<N→y≠R→S.B y=Sr.B y)∧(∀ y,y<N→S.T y=Sr.T y)∧(w+1≤S.nx)∧E 4=some (.d (dI n))∧E 0=some (.op R 0)∧E 2=some (.op u 0)∧E 3=some (.op w 0)) (fun E S=>match E 4 with | some (.d (.v (.int _ i)))=>8 - i.toNat | _=>0) ⟨0,q2+1,k,m,s,l,ns,X,Y,by simp[S3_rd,u_S3,w_S3];exact⟨hX3.rowD,hY3.rowD,hvW,S3_o,S3_t,by omega⟩⟩ ?_
          rintro E S hk ⟨n,q,k,m,s,l,ns,X,Y,hrd,hBu,hBw,hXr,hYr,hSm,hn7,hqn,hrO2,hrT2,hnx,h4,h0,h2,h3⟩
          have hn:S.n=73:=by first | (simpa using hk.n)|(have hh:=hk.n;simp[S3_n] at hh;exact hh)
          have hg:S.gl=S0.gl:=by first | (simpa using hk.gl)|(have hh:=hk.gl;simp[S3_gl] at hh;exact hh)
          have hmd:S.md=[]:=by first | (simpa using hk.md)|(have hh:=hk.md;simp[S3_md] at hh;exact hh)
          simp[h4,h0,hn]
          obtain⟨x1,x2,x3⟩:=hXr.one
          obtain⟨y1,y2,y3⟩:=hYr.one
          have hxD:=hXr.toD
          have hyD:=hYr.toD
          refine CallT.x (x_pick _ R c q 2 (by first | omega | (simp;omega)) (by simp[hrd]) hc (by omega) (by omega) (by omega)) rfl (fun r4 S4 h4=>?_)
          obtain⟨q4,hG4⟩:=h4
          subst q4
          have S4_n:=hG4.n
          try simp[hn] at S4_n
          have S4_gl:=hG4.gl
          try simp[hg] at S4_gl
          have S4_md:=hG4.md
          try simp[hmd] at S4_md
          have S4_nx:=hG4.nx
          try simp at S4_nx
          have S4_rd:=hG4.rd
          have u_S4:=hG4.old u (by first | omega | (simp;omega)) (by omega)
          try simp[hBu] at u_S4
          have w_S4:=hG4.old w (by first | omega | (simp;omega)) (by omega)
          try simp[hBw] at w_S4
          have S4_o:∀ y,y<N→y≠R→S4.B y=Sr.B y:=fun y k1 k2=>by
            have a1:=hG4.old y (by first | omega | (simp;omega)) k2
            have y1:¬ y=u:=by omega
            have y2:¬ y=w:=by omega
            try simp at a1
            exact a1.trans (hrO2 y k1 k2)
          have S4_t:∀ y,y<N→S4.T y=Sr.T y:=fun y k1=>by
            have a1:=hG4.T y (by first | omega | (simp;omega))
            try simp at a1
            exact a1.trans (hrT2 y k1)
          have hn4:=pickK_lt c q 2 (by omega)
          generalize pickK c q 2=n4 at hn4
          have w4:=wrap64 (n:=6+(n4:Int)) (by omega) (by omega)
          have w5:=wrap64 (n:=(n:Int)+1) (by omega) (by omega)
          simp[S4_n,S4_gl,w4]
          refine BrT.dec (fun c5=>?_) (fun c5=>?_)
          · simp[m1,m3,h4,h0,h2,h3,hxD,hyD,S4_n,S4_md,S4_rd,u_S4,w_S4,c5,w5]
            refine⟨⟨n+1,q+1,by omega,4,0,⟨#[]⟩,[.mk k m s l ns],[],_,_,⟨rfl,rfl,rfl,rfl,rfl⟩, .inr (.inl (by simp[valsCells,Val.cells])), .inr (.inl rfl), .mk (by decide) ⟨by simp,by simp⟩ (by simp) (by simpa using hSm),by omega,by omega,fun y k1 k2=>?_,S4_t,by omega,by omega⟩,by omega⟩
            rw[if_neg (by omega)]
            exact S4_o y k1 k2
          · simp[h2,h3,S4_n,S4_gl,u_S4,w_S4,c5]
            refine⟨.mk k m s l ns, .mk hXr hYr,hSm,q+1,⟨rfl,rfl,rfl,by simp;omega,by simp[n1,S4_rd],?_⟩,by omega⟩
            intro y k1 k2
            have z1:¬ y=u:=by omega
            have z2:¬ y=w:=by omega
            simp[z1]
            exact (S4_o y (by omega) k2).trans (by rw[hSr])
        · simp[S3_n,e3]
          refine BrT.dec (fun e4=>?_) (fun e4=>?_)
          · simp[S3_n,S3_md,w_S3,e4]
            refine⟨DrawT.mk (by kernel_rfl),?_⟩
            obtain⟨r4,S4,hL4,q4,hG4⟩:=x_of ((((((S3.adv 2).adv 2).adv 2).adv 2).adv 2).adv 9) R c (q2+1) _ [⟨#[97]⟩,⟨#[98]⟩,⟨#[49]⟩] (.inl rfl) (by simp) (by simp) (by first | omega | (simp;done)|(simp;omega)) (by simp[S3_rd]) hc (by omega)
            subst q4
            have S4_n:=hG4.n
            try simp[S3_n] at S4_n
            have S4_gl:=hG4.gl
            try simp[S3_gl] at S4_gl
            have S4_md:=hG4.md
            try simp[S3_md] at S4_md
            have S4_nx:=hG4.nx
            try simp at S4_nx
            have S4_rd:=hG4.rd
            have u_S4:=hG4.old u (by first | omega | (simp;omega)) (by omega)
            try simp[u_S3] at u_S4
            have w_S4:=hG4.old w (by first | omega | (simp;omega)) (by omega)
            try simp[w_S3] at w_S4
            have S4_o:∀ y,y<N→y≠R→S4.B y=Sr.B y:=fun y k1 k2=>by
              have a1:=hG4.old y (by first | omega | (simp;omega)) k2
              have y1:¬ y=u:=by omega
              have y2:¬ y=w:=by omega
              try simp at a1
              exact a1.trans (S3_o y k1 k2)
            have S4_t:∀ y,y<N→S4.T y=Sr.T y:=fun y k1=>by
              have a1:=hG4.T y (by first | omega | (simp;omega))
              try simp at a1
              exact a1.trans (S3_t y k1)
            have hnm:=ofK_mem c (q2+1) (l:=[⟨#[97]⟩,⟨#[98]⟩,⟨#[49]⟩]) (by simp)
            generalize ofK c (q2+1) _=nm at hnm hL4
            have hnz:nm.size≤40:=by
              simp only[List.mem_cons,List.not_mem_nil,or_false] at hnm
              rcases hnm with rfl | rfl | rfl<;>decide
            refine CallT.calm [((1,3),4)] (by kernel_rfl) (by kernel_rfl) hL4 ?_ ?_
            · simp[w_S3,w_S4,Eh.e,refOf]
            simp[S4_n,S4_md]
            refine OpT_addD (e:=9) (by_:=16) (by kernel_rfl) hY3 (by simp) rfl (by unfold appBound;omega) (fun i hi=>hG4.T i (by first | omega | (simp;done)|(simp;omega))) (by first | omega | (simp;done)|(simp;omega)) (by first | omega | (simp;done)|(simp;omega)) (by simp[S4_md]) (fun Y9 S9 E9 hE9 hA9 hB9 hT9 hX9 hnx9 hn9 hg9 hm9=>?_)
            rw[hE9]
            have S9_B:∀ y,S9.B y=S4.B y:=fun y=>congrFun hB9 y
            obtain⟨v1,v2,v3⟩:=hA9.one
            try simp at hnx9
            simp[S4_n,S4_gl,S4_md] at hn9 hg9 hm9
            simp[m3,u_S4,w_S4,S9_B,v1,v2,hn9,hg9]
            refine⟨.mk k m s l (ns++[nm]), .mk hX3.rowD (by rw[List.map_append,List.length_append];exact hA9.rowD),?_,q2+1+1,⟨rfl,rfl,rfl,by simp;omega,by simp[n1,m1,S4_rd,S9_B],?_⟩,by omega⟩
            · cases hvW with
              | mk ht hn hl h' =>
                refine .mk ht ⟨by simp;omega,fun x hx=>?_⟩ hl h'
                rcases List.mem_append.1 hx with h | h
                · exact hn.2 x h
                · rw[List.mem_singleton] at h;rw[h];omega
            intro y k1 k2
            have z1:¬ y=u:=by omega
            have z2:¬ y=w:=by omega
            simp[z1,z2,S9_B]
            exact (S4_o y (by omega) k2).trans (by rw[hSr])
          · simp[S3_n,e4]
            refine BrT.dec (fun e5=>?_) (fun e5=>?_)
            · simp[S3_n,w_S3,e5]
              refine LoopT.round (fun E S=>∃ (q:Nat) (X:SV) (vl:List Val),(S.B R=some (rdP c q))∧(S.B u=some [.d (dI 0), .d (dI 0), .d (dS ⟨#[]⟩), .fl [] 0, .fl [] 0])∧(S.B w=some [.d (dI 4), .d (dI 0), .d (dS ⟨#[]⟩),X, .fl [] 0])∧(AccD 5 S X (valsCells vl) vl.length)∧(∀ v∈vl,WF v)∧(vl.length≤1048576)∧(q+(14 - vl.length)≤q2+1+14)∧(∀ y,y<N→y≠R→S.B y=Sr.B y)∧(w+1≤S.nx)∧E 0=some (.op R 0)∧E 2=some (.op u 0)∧E 3=some (.op w 0)) (fun E S=>match S.B w with | some [_,_,_,X,_]=>14 - rowN X | _=>0) ⟨q2+1,X,l,by simp[m1,m3,S3_rd,u_S3];exact⟨hX3.mono (by first | omega | (simp;done)|(simp;omega)) (fun _ _=>rfl),hWl,hl6,fun y k1 k2=>by rw[if_neg (by omega),if_neg (by omega),if_neg (by omega),if_neg (by omega)];exact S3_o y k1 k2,by omega⟩⟩ ?_
              rintro E S hk ⟨q,X,vl,hrd,hBu,hBw,hA,hWF,hvl,hqn,hrO2,hnx,h0,h2,h3⟩
              have hn:S.n=73:=by first | (simpa using hk.n)|(have hh:=hk.n;simp[S3_n] at hh;exact hh)
              have hg:S.gl=S0.gl:=by first | (simpa using hk.gl)|(have hh:=hk.gl;simp[S3_gl] at hh;exact hh)
              have hmd:S.md=[]:=by first | (simpa using hk.md)|(have hh:=hk.md;simp[S3_md] at hh;exact hh)
              simp[h3,hn]
              obtain⟨z1,z2,z3⟩:=hA.one
              have hxD:=hA.toD
              have hxN:=hA.rowN
              have hlen:=fun (P:Program) (S:St) (dr:Bool) (A:Ar) (T:TypeId) (K:Bool→SV→Eff→Prop)=>hA.rowD.lenT (P:=P) (S:=S) (dr:=dr) (A:=A) (T:=T) (K:=K)
              simp[h0,hn,hBw,hlen]
              refine⟨DrawT.mk (by kernel_rfl),?_⟩
              obtain⟨r4,S4,hL4,q4,hG4⟩:=x_pick (S.adv 7) R c q 2 (by first | omega | (simp;done)|(simp;omega)) (by simp[hrd]) hc (by omega) (by omega) (by omega)
              subst q4
              have S4_n:=hG4.n
              try simp[hn] at S4_n
              have S4_gl:=hG4.gl
              try simp[hg] at S4_gl
              have S4_md:=hG4.md
              try simp[hmd] at S4_md
              have S4_nx:=hG4.nx
              try simp at S4_nx
              have S4_rd:=hG4.rd
              have S4_o:∀ y,y<N→y≠R→S4.B y=Sr.B y:=fun y k1 k2=>by
                have a1:=hG4.old y (by first | omega | (simp;omega)) k2
                exact a1.trans (hrO2 y k1 k2)
              have u_S4:=(hG4.old u (by first | omega | (simp;omega)) (by omega)).trans hBu
              have w_S4:=(hG4.old w (by first | omega | (simp;omega)) (by omega)).trans hBw
              have hn4:=pickK_lt c q 2 (by omega)
              generalize pickK c q 2=n4 at hn4 hL4
              have w4:=wrap64 (n:=12+(n4:Int)) (by omega) (by omega)
              refine CallT.calm [((1,3),4)] (by kernel_rfl) (by kernel_rfl) hL4 ?_ ?_
              · simp[h3,hBw,w_S4,Eh.e,refOf]
              simp[S4_n,S4_gl,w4]
              refine BrT.dec (fun c6=>?_) (fun c6=>?_)
              · simp[h3,S4_n,S4_md,w_S4,c6]
                refine OpT_addD (e:=36) (by_:=80) (by kernel_rfl) hA (valsCells_len _) rfl (by unfold appBound;omega) (fun i hi=>hG4.T i (by first | omega | (simp;done)|(simp;omega))) (by first | omega | (simp;done)|(simp;omega)) (by first | omega | (simp;done)|(simp;omega)) (by simp[S4_md]) (fun X9 S9 E9 hE9 hA9 hB9 hT9 hX9 hnx9 hn9 hg9 hm9=>?_)
                rw[hE9]
                have S9_B:∀ y,S9.B y=S4.B y:=fun y=>congrFun hB9 y
                obtain⟨v1,v2,v3⟩:=hA9.one
                try simp at hnx9
                simp[S4_n,S4_gl,S4_md] at hn9 hg9 hm9
                simp[m1,m3,h0,h2,h3,S4_rd,u_S4,w_S4,S9_B,v1,v2,hn9]
                have e9:valsCells (vl++[Val.mk 0 0 ⟨#[]⟩ [] []])=valsCells vl++[dI 0,dI 0,dS ⟨#[]⟩, .ps [] 0, .ps [] 0]:=by
                  rw[valsCells_row,valsCells_row];simp[Val.cells,valsCells]
                refine⟨⟨q+1,by omega,vl++[.mk 0 0 ⟨#[]⟩ [] []],?_,?_,by simp;omega,by simp;omega,?_,by omega⟩,?_⟩
                · rw[e9,List.length_append]
                  exact hA9.mono (by simp) (fun _ _=>rfl)
                · intro v hv
                  rcases List.mem_append.1 hv with h | h
                  · exact hWF v h
                  · rw[List.mem_singleton] at h
                    rw[h]
                    exact .mk (by decide) ⟨by simp,by simp⟩ (by simp) (by simp)
                · intro y k1 k2
                  rw[if_neg (by omega)]
                  exact S4_o y k1 k2
                · rw[hA9.rowN,hxN]
                  omega
              · simp[h2,h3,S4_n,S4_gl,u_S4,w_S4,c6]
                refine⟨.mk 4 0 ⟨#[]⟩ vl [], .mk hA.rowD (.inr (.inl rfl)), .mk (by decide) ⟨by simp,by simp⟩ (by omega) hWF,q+1,⟨rfl,rfl,rfl,by simp;omega,by simp[n1,S4_rd],?_⟩,by omega⟩
                intro y k1 k2
                have z1:¬ y=u:=by omega
                have z2:¬ y=w:=by omega
                simp[z1]
                exact (S4_o y (by omega) k2).trans (by rw[hSr])
            · simp[S3_n,S3_gl,u_S3,w_S3,e5]
              refine⟨.mk k m s l ns, .mk hX3.rowD hY3.rowD,hsm _ _ _ hs0,q2+1,⟨rfl,rfl,rfl,by simp;omega,by simp[n1,S3_rd],?_⟩,by omega⟩
              intro y k1 k2
              have z1:¬ y=u:=by omega
              have z2:¬ y=w:=by omega
              simp[z1]
              exact (S3_o y (by omega) k2).trans (by rw[hSr])
theorem d_any13 (c:List UInt8) (hc:c.length≤2000) (S0:St) (R p:Nat) (hR:R<S0.nx) (h:S0.B R=some (rdP c p)) (hp:p≤800000) :
    ∃ r S',LCall Tryz.prog 75 [.op R 0] S0 r S'∧∃ (v:Val) (q:Nat),r=.d v.d∧WF v∧GotQ S0 S' R (rdP c q)∧q≤p+20000:=by
  obtain⟨r,S',hL,v,hv,hs,q,hG,hq⟩:=l_any13 c hc S0 R p hR h hp
  refine⟨_,_,hL.frozen S0.nx (hv.frz _),v,q,rfl,hs,⟨hG.n,hG.gl,hG.md,hG.nx,?_,fun y hy hne=>?_⟩,hq⟩
  · have:¬ S0.nx≤R:=by omega
    simp[this,hG.rd]
  · have:¬ S0.nx≤y:=by omega
    simp[this,hG.old y hy hne]
inductive OneT:Typ→Prop
  | name {s:ByteArray} {b:Bool}:OneT (.mk s [] b)
  | list {s:ByteArray} {t:Typ} {b:Bool} (h:OneT t):OneT (.mk s [t] b)
theorem Wrap.one {names:List ByteArray}:∀ {k:Nat}{t:Typ},Wrap names k t→OneT t
  | 0,t,h=>by
    obtain⟨n,b,rfl,_⟩:=h
    exact .name
  | k+1,t,h=>by
    obtain⟨t',b,rfl,h'⟩:=h
    exact .list (Wrap.one h')
def fB:Nat→Nat
  | 0=>8
  | d+1=>8+2*fB d
theorem fB_ge (d:Nat):8≤fB d:=by cases d<;>simp[fB]
set_option maxHeartbeats 32000000 in
theorem l_for13 (c:List UInt8) (hc:c.length≤2000) (x:D):∀ (d:Nat) (S0:St) (R p:Nat) (t:Typ),OneT t→R<S0.nx→S0.B R=some (rdP c p)→p+fB d≤900000→d≤100 →
    ∃ r S',LCall Tryz.prog 76 [.op R 0, .d x, .d t.d, .d (dI d)] S0 r S'∧∃ v:Val,r=.d v.d∧Small v∧∃ q,Got S0 S' R (rdP c q) []∧q≤p+fB d:=by
  intro d
  induction d using Nat.strongRecOn with
  | _ d ih =>
  intro S0 R p t ht hR h hp hd
  have hfd:=fB_ge d
  suffices hmain:∃ r S',LCall Tryz.prog 76 [.op R 0, .d x, .d t.d, .d (dI d)] S0 r S'∧∃ v:Val,ValQ r v∧Small v∧∃ q,Got S0 S' R (rdP c q) []∧q≤p+fB d by
    obtain⟨r,S',hL,v,hv,hs,q,hG,hq⟩:=hmain
    refine⟨_,_,hL.frozen S0.nx (hv.frz _),v,rfl,hs,q,⟨hG.n,hG.gl,hG.md,hG.nx,?_,fun y hy hne=>?_,fun y hy=>hG.T y hy, .nil⟩,hq⟩
    · have:¬ S0.nx≤R:=by omega
      simp[this,hG.rd]
    · have:¬ S0.nx≤y:=by omega
      simp[this,hG.old y hy hne]
  obtain⟨s,l,b,rfl⟩:∃ s l b,t=.mk s l b:=by cases t;exact⟨_,_,_,rfl⟩
  refine LCall.ex_ (md:=[]) Tryz.func76 rfl (by kernel_rfl) (by kernel_rfl) (n:=115) Tryz.ntmps76 (by simp) (by decide) rfl ?_
  simp[Typ.cells]
  generalize hu:S0.nx=u at *
  obtain⟨w,hw⟩:∃ w,u+1=w:=⟨_,rfl⟩
  rw[hw]
  have n1:¬ R=u:=by omega
  have n2:¬ u=R:=by omega
  have n3:¬ R=w:=by omega
  have n4:¬ w=R:=by omega
  have n5:¬ u=w:=by omega
  have n6:¬ w=u:=by omega
  obtain⟨N,hN⟩:∃ N,u=N:=⟨_,rfl⟩
  obtain⟨Sr,hSr⟩:∃ Sr,S0=Sr:=⟨_,rfl⟩
  have hrO:∀ y,y<N→y≠R→S0.B y=Sr.B y:=fun y _ _=>by rw[hSr]
  have hrT:∀ y,y<N→S0.T y=Sr.T y:=fun y _=>by rw[hSr]
  cases b
  case' true =>
    simp
    refine BrT.dec (fun c0=>?_) (fun c0=>?_)
    case' refine_1 =>
      simp[c0]
      refine⟨.mk 0 0 ⟨#[]⟩ [] [], .mk (.inr (.inl rfl)) (.inr (.inl rfl)),small0 (by decide),p,⟨rfl,rfl,rfl,by simp;omega,by simp[h,n1,n3],?_,?_, .nil⟩,by omega⟩
      · intro y k1 k2
        have z1:¬ y=u:=by omega
        have z2:¬ y=w:=by omega
        simp[z1,z2]
      · intro y k1
        rfl
    case' refine_2 =>
      obtain⟨S2,hS2⟩:∃ S2,S2=((((({ B:=S0.B,T:=S0.T,n:=115,nx:=u,md:=[],gl:=S0.gl }:St).adv 2).new u [SV.d (dS s),SV.d (D.ps (typsCells l) l.length),SV.d (dB true)]).new w [SV.d (D.v (Value.int IntKind.i64 0)),SV.d (D.v (Value.int IntKind.i64 0)),SV.d (D.v (Value.string { data:=#[] })),SV.fl [] 0,SV.fl [] 0]).adv 12):=⟨_,rfl⟩
      rw[← hS2]
      have S2_n:S2.n=115:=by rw[hS2];rfl
      have S2_gl:S2.gl=S0.gl:=by rw[hS2];rfl
      have S2_md:S2.md=[]:=by rw[hS2];rfl
      have S2_nx:w+1≤S2.nx:=by rw[hS2];simp;omega
      have S2_rd:S2.B R=some (rdP c p):=by rw[hS2];simp[h,n1,n3]
      obtain⟨bb,hbb⟩:∃ bb,bb=true:=⟨_,rfl⟩
      have u_S2:S2.B u=some [SV.d (dS s),SV.d (D.ps (typsCells l) l.length),SV.d (dB bb)]:=by rw[hS2,hbb];simp[n5]
      have w_S2:S2.B w=some [SV.d (dI 0), .d (dI 0), .d (dS ⟨#[]⟩), .fl [] 0, .fl [] 0]:=by rw[hS2];simp
      have S2_o:∀ y,y<N→y≠R→S2.B y=Sr.B y:=fun y k1 k2=>by
        have z1:¬ y=u:=by omega
        have z2:¬ y=w:=by omega
        rw[hS2, ← hSr]
        simp[z1,z2]
      have S2_t:∀ y,y<N→S2.T y=Sr.T y:=fun y k1=>by rw[hS2, ← hSr];rfl
      obtain⟨q,hq,hq1⟩:∃ q,q=p∧q≤p+1:=⟨_,rfl,by omega⟩
      rw[← hq] at S2_rd
      clear hS2
  case' false =>
    simp
    refine CallT.x (x_pick _ R c p 8 (by first | omega | (simp;omega)) (by simp[h,n1,n3]) hc (by omega) (by omega) (by omega)) rfl (fun r1 S1 h1=>?_)
    obtain⟨q1,hG1⟩:=h1
    subst q1
    have S1_n:=hG1.n
    try simp at S1_n
    have S1_gl:=hG1.gl
    try simp at S1_gl
    have S1_md:=hG1.md
    try simp at S1_md
    have S1_nx:=hG1.nx
    try simp at S1_nx
    have S1_rd:=hG1.rd
    have u_S1:=hG1.old u (by first | omega | (simp;omega)) (by omega)
    try simp[n5] at u_S1
    have w_S1:=hG1.old w (by first | omega | (simp;omega)) (by omega)
    try simp at w_S1
    have S1_o:∀ y,y<N→y≠R→S1.B y=Sr.B y:=fun y k1 k2=>by
      have a1:=hG1.old y (by first | omega | (simp;omega)) k2
      have y1:¬ y=u:=by omega
      have y2:¬ y=w:=by omega
      try simp[y1,y2] at a1
      exact a1.trans (hrO y k1 k2)
    have S1_t:∀ y,y<N→S1.T y=Sr.T y:=fun y k1=>by
      have a1:=hG1.T y (by first | omega | (simp;omega))
      try simp at a1
      exact a1.trans (hrT y k1)
    simp[S1_n]
    refine BrT.dec (fun c8=>?_) (fun c8=>?_)
    case' refine_1 =>
      simp[S1_n,S1_gl,w_S1,c8]
      refine⟨.mk 0 0 ⟨#[]⟩ [] [], .mk (.inr (.inl rfl)) (.inr (.inl rfl)),small0 (by decide),p+1,⟨rfl,rfl,rfl,by simp;omega,by simp[n3,S1_rd],?_,?_, .nil⟩,by omega⟩
      · intro y k1 k2
        have z1:¬ y=u:=by omega
        have z2:¬ y=w:=by omega
        simp[z2]
        exact (S1_o y (by omega) k2).trans (by rw[hSr])
      · intro y k1
        exact (S1_t y (by omega)).trans (by rw[hSr])
    case' refine_2 =>
      simp[S1_n,c8]
      refine BrT.dec (fun c0=>?_) (fun c0=>?_)
      case' refine_1 =>
        simp[S1_n,S1_gl,w_S1,c0]
        refine⟨.mk 0 0 ⟨#[]⟩ [] [], .mk (.inr (.inl rfl)) (.inr (.inl rfl)),small0 (by decide),p+1,⟨rfl,rfl,rfl,by simp;omega,by simp[n3,S1_rd],?_,?_, .nil⟩,by omega⟩
        · intro y k1 k2
          have z1:¬ y=u:=by omega
          have z2:¬ y=w:=by omega
          simp[z2]
          exact (S1_o y (by omega) k2).trans (by rw[hSr])
        · intro y k1
          exact (S1_t y (by omega)).trans (by rw[hSr])
      case' refine_2 =>
        obtain⟨S2,hS2⟩:∃ S2,S2=S1:=⟨_,rfl⟩
        subst hS2
        have S2_n:=S1_n
        have S2_gl:=S1_gl
        have S2_md:=S1_md
        have S2_nx:w+1≤S2.nx:=by first | omega | (simp at S1_nx;omega)
        have S2_rd:=S1_rd
        obtain⟨bb,hbb⟩:∃ bb,bb=false:=⟨_,rfl⟩
        rw[← hbb] at u_S1
        have u_S2:=u_S1
        have w_S2:=w_S1
        have S2_o:=S1_o
        have S2_t:=S1_t
        obtain⟨q,hq,hq1⟩:∃ q,q=p+1∧q≤p+1:=⟨_,rfl,by omega⟩
        rw[← hq] at S2_rd
  all_goals
    cases ht with
    | list ht' =>
      rename_i t1
      have e1:typsCells [t1]=t1.cells:=by simp[typsCells]
      have tl:=tcells_len t1
      have tt:List.take 3 t1.cells=t1.cells:=List.take_of_length_le (by omega)
      simp[S2_n,u_S2,e1]
      obtain⟨e,rfl⟩:∃ e,d=e+1:=⟨d - 1,by omega⟩
      have hfe:fB (e+1)=8+2*fB e:=rfl
      obtain⟨w2,hw2,hw2n⟩:∃ w2,S2.nx+4+1=w2∧w2<S2.nx+7:=⟨_,rfl,by omega⟩
      rw[hw2]
      have m1:¬ R=w2:=by omega
      have m2:¬ w2=R:=by omega
      have m3:¬ u=w2:=by omega
      have m4:¬ w2=u:=by omega
      have m5:¬ w=w2:=by omega
      have m6:¬ w2=w:=by omega
      refine CallT.x (x_pick _ R c q 3 (by first | omega | (simp;done)|(simp;omega)) (by simp[S2_rd,m1]) hc (by omega) (by omega) (by omega)) rfl (fun r3 S3 h3=>?_)
      obtain⟨q3,hG3⟩:=h3
      subst q3
      have S3_n:=hG3.n
      try simp[S2_n] at S3_n
      have S3_gl:=hG3.gl
      try simp[S2_gl] at S3_gl
      have S3_md:=hG3.md
      try simp[S2_md] at S3_md
      have S3_nx:=hG3.nx
      try simp at S3_nx
      have S3_rd:=hG3.rd
      have u_S3:=hG3.old u (by first | omega | (simp;omega)) (by omega)
      try simp[u_S2,e1,m3] at u_S3
      have w_S3:=hG3.old w (by first | omega | (simp;omega)) (by omega)
      try simp[w_S2,m5] at w_S3
      have w2_S3:=hG3.old w2 (by first | omega | (simp;omega)) (by omega)
      try simp at w2_S3
      have S3_o:∀ y,y<N→y≠R→S3.B y=Sr.B y:=fun y k1 k2=>by
        have a1:=hG3.old y (by first | omega | (simp;omega)) k2
        have y1:¬ y=u:=by omega
        have y2:¬ y=w:=by omega
        have y3:¬ y=w2:=by omega
        try simp[y3] at a1
        exact a1.trans (S2_o y k1 k2)
      have S3_t:∀ y,y<N→S3.T y=Sr.T y:=fun y k1=>by
        have a1:=hG3.T y (by first | omega | (simp;omega))
        try simp at a1
        exact a1.trans (S2_t y k1)
      have hk3:=pickK_lt c q 3 (by omega)
      generalize pickK c q 3=k3 at hk3
      have v1:((e+1:Nat):Int) - 1=(e:Int):=by omega
      have v2:=wrap64 (n:=(e:Int)) (by omega) (by omega)
      simp[S3_n]
      refine LoopT.round (fun E S=>∃ (n:Nat) (qq:Nat) (X:SV) (vl:List Val),(S.B R=some (rdP c qq))∧(S.B u=some [.d (dS s), .d (.ps t1.cells 1), .d (dB bb)])∧(S.B w=some [.d (dI 0), .d (dI 0), .d (dS ⟨#[]⟩), .fl [] 0, .fl [] 0])∧(S.B w2=some [.d (dI 4), .d (dI 0), .d (dS ⟨#[]⟩),X, .fl [] 0])∧(AccD 5 S X (valsCells vl) vl.length)∧(∀ v∈vl,Small v)∧(vl.length+n≤2)∧(qq+n*fB e≤q+1+2*fB e)∧(∀ y,y<N→y≠R→S.B y=Sr.B y)∧(∀ y,y<N→S.T y=Sr.T y)∧(∀ i o cs m,X=.tp i o cs m→N≤i)∧(w2+1≤S.nx)∧E 10=some (.d (dI n))∧E 0=some (.op R 0)∧E 1=some (.d (x))∧E 3=some (.d (dI (e+1:Nat)))∧E 6=some (.op u 0)∧E 8=some (.op w 0)∧E 9=some (.op w2 0)) (fun E S=>match E 10 with | some (.d (.v (.int _ i)))=>i.toNat | _=>0) ⟨k3,q+1, .fl [] 0,[],by simp[S3_rd,u_S3,w_S3,w2_S3];exact⟨AccD.nil,by omega,Nat.mul_le_mul_right _ (by omega),S3_o,S3_t,by omega⟩⟩ ?_
      rintro E S hk ⟨n,qq,X,vl,hrd,hBu,hBw,hB2,hA,hSm,hvl,hqq,hrO2,hrT2,hXN,hnx,h10,h0,h1,h3,h6,h8,h9⟩
      have hn:S.n=115:=by first | (simpa using hk.n)|(have hh:=hk.n;simp[S3_n] at hh;exact hh)
      have hg:S.gl=S0.gl:=by first | (simpa using hk.gl)|(have hh:=hk.gl;simp[S3_gl] at hh;exact hh)
      have hmd:S.md=[]:=by first | (simpa using hk.md)|(have hh:=hk.md;simp[S3_md] at hh;exact hh)
      simp[h10,hn]
      refine BrT.dec (fun c2=>?_) (fun c2=>?_)
      · obtain⟨n',rfl⟩:∃ n',n=n'+1:=⟨n - 1,by omega⟩
        rw[Nat.succ_mul] at hqq
        have w3:((n'+1:Nat):Int) - 1=(n':Int):=by omega
        have w4:=wrap64 (n:=(n':Int)) (by omega) (by omega)
        simp[tl,tt,v2,h0,h1,h3,h6,h9,hn,c2,hBu,hB2]
        refine⟨DrawT.mk (by kernel_rfl),?_⟩
        obtain⟨r5,S5,hL5,v,rfl,hvs,q5,hG5,hq5⟩:=ih e (by omega) ((S.adv 2).adv 15) R qq t1 ht' (by first | omega | (simp;done)|(simp;omega)) (by simp[hrd]) (by omega) (by omega)
        have S5_n:=hG5.n
        try simp[hn] at S5_n
        have S5_gl:=hG5.gl
        try simp[hg] at S5_gl
        have S5_md:=hG5.md
        try simp[hmd] at S5_md
        have S5_nx:=hG5.nx
        try simp at S5_nx
        have S5_rd:=hG5.rd
        have u_S5:=hG5.old u (by first | omega | (simp;omega)) (by omega)
        try simp[hBu] at u_S5
        have w_S5:=hG5.old w (by first | omega | (simp;omega)) (by omega)
        try simp[hBw] at w_S5
        have w2_S5:=hG5.old w2 (by first | omega | (simp;omega)) (by omega)
        try simp[hB2] at w2_S5
        have S5_o:∀ y,y<N→y≠R→S5.B y=Sr.B y:=fun y k1 k2=>by
          have a1:=hG5.old y (by first | omega | (simp;omega)) k2
          have y1:¬ y=u:=by omega
          have y2:¬ y=w:=by omega
          have y3:¬ y=w2:=by omega
          try simp at a1
          exact a1.trans (hrO2 y k1 k2)
        have S5_t:∀ y,y<N→S5.T y=Sr.T y:=fun y k1=>by
          have a1:=hG5.T y (by first | omega | (simp;omega))
          try simp at a1
          exact a1.trans (hrT2 y k1)
        refine CallT.calm [((1,9),10)] (by kernel_rfl) (by kernel_rfl) hL5 ?_ ?_
        · simp[h9,hB2,w2_S5,Eh.e,refOf]
        obtain⟨z1,z2,z3⟩:=hA.one
        have hvc:v.cells.length=5:=by cases v;rfl
        simp[S5_n,S5_md,hvc]
        refine OpT_addD (e:=36) (by_:=80) (by kernel_rfl) hA (valsCells_len _) hvc (by unfold appBound;omega) (fun i hi=>hG5.T i (by first | omega | (simp;done)|(simp;omega))) (by first | omega | (simp;done)|(simp;omega)) (by first | omega | (simp;done)|(simp;omega)) (by simp[S5_md]) (fun X9 S9 E9 hE9 hA9 hB9 hT9 hX9 hnx9 hn9 hg9 hm9=>?_)
        rw[hE9]
        have S9_B:∀ y,S9.B y=S5.B y:=fun y=>congrFun hB9 y
        obtain⟨v1,v2,v3⟩:=hA9.one
        try simp at hnx9
        simp[S5_n,S5_gl,S5_md] at hn9 hg9 hm9
        simp[m1,m3,m5,h10,h0,h1,h3,h6,h8,h9,w4,S5_rd,u_S5,w_S5,w2_S5,S9_B,v1,v2,hn9]
        have e9:valsCells (vl++[v])=valsCells vl++v.cells:=by
          rw[valsCells_row,valsCells_row];simp
        refine⟨n',q5,rfl,vl++[v],?_,?_,by simp;omega,by omega,?_,?_,?_,by omega,rfl⟩
        · rw[e9,List.length_append]
          exact hA9.mono (by simp) (fun _ _=>rfl)
        · intro v' hv
          rcases List.mem_append.1 hv with h | h
          · exact hSm v' h
          · rw[List.mem_singleton] at h;rw[h];exact hvs
        · intro y k1 k2
          rw[if_neg (by omega)]
          exact S5_o y k1 k2
        · intro y k1
          rw[hT9 y (by omega) (fun o cs m e=>by have:=hXN _ _ _ _ e;omega)]
          exact S5_t y k1
        · intro i o cs m e
          rcases hX9 i o cs m e with h | ⟨o',cs',m',h⟩
          · omega
          · exact hXN _ _ _ _ h
      · have hn0:n=0:=by omega
        subst hn0
        obtain⟨z1,z2,z3⟩:=hA.one
        simp[h8,h9,hn,hg,c2,hBw,hB2]
        refine⟨.mk 4 0 ⟨#[]⟩ vl [], .mk hA.rowD (.inr (.inl rfl)), .mk (by decide) (by simp) (by simp) (by omega) hSm,qq,⟨rfl,rfl,rfl,by simp;omega,by simp[n3,hrd],?_,?_, .nil⟩,by omega⟩
        · intro y k1 k2
          have z1:¬ y=u:=by omega
          have z2:¬ y=w:=by omega
          simp[z2]
          exact (hrO2 y (by omega) k2).trans (by rw[hSr])
        · intro y k1
          exact (hrT2 y (by omega)).trans (by rw[hSr])
    | name =>
      simp[S2_n,u_S2]
      refine BrT.dec (fun f1=>?_) (fun f1=>?_)
      · simp[S2_n,S2_md,f1]
        refine CallT.x (x_one _ R c q _ [0,1,2,3, -1,7] (.inl rfl) (by simp) (by simp) (by first | omega | (simp;done)|(simp;omega)) (by simp[S2_rd]) hc (by omega)) rfl (fun r3 S3 h3=>?_)
        obtain⟨q3,hG3⟩:=h3
        subst q3
        have S3_n:=hG3.n
        try simp[S2_n] at S3_n
        have S3_gl:=hG3.gl
        try simp[S2_gl] at S3_gl
        have S3_md:=hG3.md
        try simp[S2_md] at S3_md
        have S3_nx:=hG3.nx
        try simp at S3_nx
        have S3_rd:=hG3.rd
        have u_S3:=hG3.old u (by first | omega | (simp;omega)) (by omega)
        try simp[u_S2,f1] at u_S3
        have w_S3:=hG3.old w (by first | omega | (simp;omega)) (by omega)
        try simp[w_S2] at w_S3
        have S3_o:∀ y,y<N→y≠R→S3.B y=Sr.B y:=fun y k1 k2=>by
          have a1:=hG3.old y (by first | omega | (simp;omega)) k2
          have y1:¬ y=u:=by omega
          have y2:¬ y=w:=by omega
          try simp at a1
          exact a1.trans (S2_o y k1 k2)
        have S3_t:∀ y,y<N→S3.T y=Sr.T y:=fun y k1=>by
          have a1:=hG3.T y (by first | omega | (simp;omega))
          try simp at a1
          exact a1.trans (S2_t y k1)
        simp[S3_n,S3_gl,w_S3]
        refine⟨.mk 2 (oneK c q [0,1,2,3, -1,7]) ⟨#[]⟩ [] [], .mk (.inr (.inl rfl)) (.inr (.inl rfl)),small0 (by decide),q+1,⟨rfl,rfl,rfl,by simp;omega,by simp[n3,S3_rd],?_,?_, .nil⟩,by omega⟩
        · intro y k1 k2
          have z1:¬ y=u:=by omega
          have z2:¬ y=w:=by omega
          simp[z2]
          exact (S3_o y (by omega) k2).trans (by rw[hSr])
        · intro y k1
          exact (S3_t y (by omega)).trans (by rw[hSr])
      · simp[S2_n,f1]
        refine BrT.dec (fun f2=>?_) (fun f2=>?_)
        · simp[S2_n,S2_md,f2]
          have hnm:=ofK_mem c q (l:=[⟨#[97]⟩,⟨#[110,97,109,101]⟩,⟨#[97,103,101]⟩,⟨#[110]⟩]) (by simp)
          refine CallT.x (x_of _ R c q _ [⟨#[97]⟩,⟨#[110,97,109,101]⟩,⟨#[97,103,101]⟩,⟨#[110]⟩] (.inl rfl) (by simp) (by simp) (by first | omega | (simp;done)|(simp;omega)) (by simp[S2_rd]) hc (by omega)) rfl (fun r3 S3 h3=>?_)
          obtain⟨q3,hG3⟩:=h3
          subst q3
          have S3_n:=hG3.n
          try simp[S2_n] at S3_n
          have S3_gl:=hG3.gl
          try simp[S2_gl] at S3_gl
          have S3_md:=hG3.md
          try simp[S2_md] at S3_md
          have S3_nx:=hG3.nx
          try simp at S3_nx
          have S3_rd:=hG3.rd
          have u_S3:=hG3.old u (by first | omega | (simp;omega)) (by omega)
          try simp[u_S2,f2] at u_S3
          have w_S3:=hG3.old w (by first | omega | (simp;omega)) (by omega)
          try simp[w_S2] at w_S3
          have S3_o:∀ y,y<N→y≠R→S3.B y=Sr.B y:=fun y k1 k2=>by
            have a1:=hG3.old y (by first | omega | (simp;omega)) k2
            have y1:¬ y=u:=by omega
            have y2:¬ y=w:=by omega
            try simp at a1
            exact a1.trans (S2_o y k1 k2)
          have S3_t:∀ y,y<N→S3.T y=Sr.T y:=fun y k1=>by
            have a1:=hG3.T y (by first | omega | (simp;omega))
            try simp at a1
            exact a1.trans (S2_t y k1)
          simp[S3_n,S3_gl,w_S3]
          generalize ofK c q _=nm at hnm
          have hnz:nm.size≤1048576:=by
            simp only[List.mem_cons,List.not_mem_nil,or_false] at hnm
            rcases hnm with rfl | rfl | rfl | rfl<;>decide
          refine⟨.mk 3 0 nm [] [], .mk (.inr (.inl rfl)) (.inr (.inl rfl)),small0 hnz,q+1,⟨rfl,rfl,rfl,by simp;omega,by simp[n3,S3_rd],?_,?_, .nil⟩,by omega⟩
          · intro y k1 k2
            have z1:¬ y=u:=by omega
            have z2:¬ y=w:=by omega
            simp[z2]
            exact (S3_o y (by omega) k2).trans (by rw[hSr])
          · intro y k1
            exact (S3_t y (by omega)).trans (by rw[hSr])
        · simp[S2_n,f2]
          refine BrT.dec (fun f3=>?_) (fun f3=>?_)
          · simp[S2_n,f3]
            refine CallT.x (x_pick _ R c q 2 (by first | omega | (simp;done)|(simp;omega)) (by simp[S2_rd]) hc (by omega) (by omega) (by omega)) rfl (fun r3 S3 h3=>?_)
            obtain⟨q3,hG3⟩:=h3
            subst q3
            have S3_n:=hG3.n
            try simp[S2_n] at S3_n
            have S3_gl:=hG3.gl
            try simp[S2_gl] at S3_gl
            have S3_md:=hG3.md
            try simp[S2_md] at S3_md
            have S3_nx:=hG3.nx
            try simp at S3_nx
            have S3_rd:=hG3.rd
            have u_S3:=hG3.old u (by first | omega | (simp;omega)) (by omega)
            try simp[u_S2,f3] at u_S3
            have w_S3:=hG3.old w (by first | omega | (simp;omega)) (by omega)
            try simp[w_S2] at w_S3
            have S3_o:∀ y,y<N→y≠R→S3.B y=Sr.B y:=fun y k1 k2=>by
              have a1:=hG3.old y (by first | omega | (simp;omega)) k2
              have y1:¬ y=u:=by omega
              have y2:¬ y=w:=by omega
              try simp at a1
              exact a1.trans (S2_o y k1 k2)
            have S3_t:∀ y,y<N→S3.T y=Sr.T y:=fun y k1=>by
              have a1:=hG3.T y (by first | omega | (simp;omega))
              try simp at a1
              exact a1.trans (S2_t y k1)
            simp[S3_n,S3_gl,w_S3]
            refine⟨.mk 1 (pickK c q 2) ⟨#[]⟩ [] [], .mk (.inr (.inl rfl)) (.inr (.inl rfl)),small0 (by decide),q+1,⟨rfl,rfl,rfl,by simp;omega,by simp[n3,S3_rd],?_,?_, .nil⟩,by omega⟩
            · intro y k1 k2
              have z1:¬ y=u:=by omega
              have z2:¬ y=w:=by omega
              simp[z2]
              exact (S3_o y (by omega) k2).trans (by rw[hSr])
            · intro y k1
              exact (S3_t y (by omega)).trans (by rw[hSr])
          · simp[S2_n,f3]
            refine BrT.dec (fun f4=>?_) (fun f4=>?_)
            · simp[S2_n,S2_md,f4]
              refine CallT.x (x_one _ R c q _ [2,3] (.inl rfl) (by simp) (by simp) (by first | omega | (simp;done)|(simp;omega)) (by simp[S2_rd]) hc (by omega)) rfl (fun r3 S3 h3=>?_)
              obtain⟨q3,hG3⟩:=h3
              subst q3
              have S3_n:=hG3.n
              try simp[S2_n] at S3_n
              have S3_gl:=hG3.gl
              try simp[S2_gl] at S3_gl
              have S3_md:=hG3.md
              try simp[S2_md] at S3_md
              have S3_nx:=hG3.nx
              try simp at S3_nx
              have S3_rd:=hG3.rd
              have u_S3:=hG3.old u (by first | omega | (simp;omega)) (by omega)
              try simp[u_S2,f4] at u_S3
              have w_S3:=hG3.old w (by first | omega | (simp;omega)) (by omega)
              try simp[w_S2] at w_S3
              have S3_o:∀ y,y<N→y≠R→S3.B y=Sr.B y:=fun y k1 k2=>by
                have a1:=hG3.old y (by first | omega | (simp;omega)) k2
                have y1:¬ y=u:=by omega
                have y2:¬ y=w:=by omega
                try simp at a1
                exact a1.trans (S2_o y k1 k2)
              have S3_t:∀ y,y<N→S3.T y=Sr.T y:=fun y k1=>by
                have a1:=hG3.T y (by first | omega | (simp;omega))
                try simp at a1
                exact a1.trans (S2_t y k1)
              simp[S3_n,S3_gl,w_S3]
              refine⟨.mk (oneK c q [2,3]) 0 ⟨#[]⟩ [] [], .mk (.inr (.inl rfl)) (.inr (.inl rfl)),small0 (by decide),q+1,⟨rfl,rfl,rfl,by simp;omega,by simp[n3,S3_rd],?_,?_, .nil⟩,by omega⟩
              · intro y k1 k2
                have z1:¬ y=u:=by omega
                have z2:¬ y=w:=by omega
                simp[z2]
                exact (S3_o y (by omega) k2).trans (by rw[hSr])
              · intro y k1
                exact (S3_t y (by omega)).trans (by rw[hSr])
            · simp[S2_n,f4]
              refine BrT.dec (fun f5=>?_) (fun f5=>?_)
              · simp[S2_n,S2_md,f5]
                refine CallT.x (x_pick _ R c q 3 (by first | omega | (simp;done)|(simp;omega)) (by simp[S2_rd]) hc (by omega) (by omega) (by omega)) rfl (fun r3 S3 h3=>?_)
                obtain⟨q3,hG3⟩:=h3
                subst q3
                have S3_n:=hG3.n
                try simp[S2_n] at S3_n
                have S3_gl:=hG3.gl
                try simp[S2_gl] at S3_gl
                have S3_md:=hG3.md
                try simp[S2_md] at S3_md
                have S3_nx:=hG3.nx
                try simp at S3_nx
                have S3_rd:=hG3.rd
                have u_S3:=hG3.old u (by first | omega | (simp;omega)) (by omega)
                try simp[u_S2,f5] at u_S3
                have w_S3:=hG3.old w (by first | omega | (simp;omega)) (by omega)
                try simp[w_S2] at w_S3
                have S3_o:∀ y,y<N→y≠R→S3.B y=Sr.B y:=fun y k1 k2=>by
                  have a1:=hG3.old y (by first | omega | (simp;omega)) k2
                  have y1:¬ y=u:=by omega
                  have y2:¬ y=w:=by omega
                  try simp at a1
                  exact a1.trans (S2_o y k1 k2)
                have S3_t:∀ y,y<N→S3.T y=Sr.T y:=fun y k1=>by
                  have a1:=hG3.T y (by first | omega | (simp;omega))
                  try simp at a1
                  exact a1.trans (S2_t y k1)
                obtain⟨a,ha⟩:∃ a:Nat,pickK c q 3=a:=⟨_,rfl⟩
                rw[ha]
                simp[S3_n,S3_md]
                obtain⟨w2,hw2,hw2n⟩:∃ w2,S2.nx+4+2+2+2+2+2+2+6=w2∧w2<S3.nx:=⟨_,rfl,by first | omega | (simp at S3_nx;omega)⟩
                rw[hw2]
                have m1:¬ R=w2:=by omega
                have m2:¬ w2=R:=by omega
                have m3:¬ u=w2:=by omega
                have m4:¬ w2=u:=by omega
                have m5:¬ w=w2:=by omega
                have m6:¬ w2=w:=by omega
                refine CallT.x (x_pick _ R c (q+1) 3 (by first | omega | (simp;done)|(simp;omega)) (by simp[S3_rd,m1]) hc (by omega) (by omega) (by omega)) rfl (fun r4 S4 h4=>?_)
                obtain⟨q4,hG4⟩:=h4
                subst q4
                have S4_n:=hG4.n
                try simp[S3_n] at S4_n
                have S4_gl:=hG4.gl
                try simp[S3_gl] at S4_gl
                have S4_md:=hG4.md
                try simp[S3_md] at S4_md
                have S4_nx:=hG4.nx
                try simp at S4_nx
                have S4_rd:=hG4.rd
                have u_S4:=hG4.old u (by first | omega | (simp;omega)) (by omega)
                try simp[u_S3,m3] at u_S4
                have w_S4:=hG4.old w (by first | omega | (simp;omega)) (by omega)
                try simp[w_S3,m5] at w_S4
                have w2_S4:=hG4.old w2 (by first | omega | (simp;omega)) (by omega)
                try simp at w2_S4
                have S4_o:∀ y,y<N→y≠R→S4.B y=Sr.B y:=fun y k1 k2=>by
                  have a1:=hG4.old y (by first | omega | (simp;omega)) k2
                  have y1:¬ y=u:=by omega
                  have y2:¬ y=w:=by omega
                  have y3:¬ y=w2:=by omega
                  try simp[y3] at a1
                  exact a1.trans (S3_o y k1 k2)
                have S4_t:∀ y,y<N→S4.T y=Sr.T y:=fun y k1=>by
                  have a1:=hG4.T y (by first | omega | (simp;omega))
                  try simp at a1
                  exact a1.trans (S3_t y k1)
                simp[S4_n]
                have hs1:Small (.mk 5 0 ⟨#[]⟩ [.mk 2 a ⟨#[]⟩ [] []] [⟨#[97]⟩]):=.mk (by decide) (by decide) (by intro s hs;rw[List.mem_singleton] at hs;subst hs;decide) (by simp) (by intro v hv;rw[List.mem_singleton] at hv;subst hv;exact small0 (by decide))
                refine BrT.dec (fun g1=>?_) (fun g1=>?_)
                · simp[S4_n,g1]
                  refine BrT.dec (fun g2=>?_) (fun g2=>?_)
                  · obtain⟨e,rfl⟩:∃ e,d=e+1:=⟨d - 1,by omega⟩
                    have hfe:fB (e+1)=8+2*fB e:=rfl
                    have v1:((e+1:Nat):Int) - 1=(e:Int):=by omega
                    have v2:=wrap64 (n:=(e:Int)) (by omega) (by omega)
                    simp[S4_n,S4_md,w2_S4,v2]
                    refine⟨by unfold appBound;omega,DrawT.mk (by kernel_rfl),?_⟩
                    obtain⟨r5,S5,hL5,v,rfl,hvs,q5,hG5,hq5⟩:=ih e (by omega) ((((S4.adv 6).tipTo (S4.nx+3) 2 1).set w2 [SV.d (D.v (Value.int IntKind.i64 5)),SV.d (D.v (Value.int IntKind.i64 0)),SV.d (D.v (Value.string { data:=#[] })),SV.fl [D.v (Value.int IntKind.i64 2),D.v (Value.int IntKind.i64 a),D.v (Value.string { data:=#[] }),D.ps [] 0,D.ps [] 0] 1,SV.tp (S4.nx+3) 0 [D.v (Value.string { data:=#[97] }),D.v (Value.string { data:=#[98] })] 2]).adv 12) R (q+1+1) (.mk ⟨#[83,116,114,105,110,103]⟩ [] false) .name (by first | omega | (simp;done)|(simp;omega)) (by simp[m1,S4_rd]) (by omega) (by omega)
                    have hL5:=LCall.as (ss:=[SV.op R 0,SV.d x,SV.ag [SV.d (D.v (Value.string { data:=#[83,116,114,105,110,103] })),SV.fl [] 0,SV.d (D.v (Value.bool false))],SV.d (D.v (Value.int IntKind.i64 e))]) hL5 (by repeat' (first | exact trivial | exact Or.inl rfl | exact Or.inr ⟨_,by first | (simp;done)|(simp;rfl),rfl⟩ | refine And.intro ?_ ?_))
                    have S4_t':∀ y,y<N→(if y=S4.nx+3 then some (2,1) else S4.T y)=Sr.T y:=fun y k=>by rw[if_neg (by omega)];exact S4_t y k
                    have S5_n:=hG5.n
                    try simp[S4_n] at S5_n
                    have S5_gl:=hG5.gl
                    try simp[S4_gl] at S5_gl
                    have S5_md:=hG5.md
                    try simp[S4_md] at S5_md
                    have S5_nx:=hG5.nx
                    try simp at S5_nx
                    have S5_rd:=hG5.rd
                    have u_S5:=hG5.old u (by first | omega | (simp;omega)) (by omega)
                    try simp[m3,u_S4] at u_S5
                    have w_S5:=hG5.old w (by first | omega | (simp;omega)) (by omega)
                    try simp[m5,w_S4] at w_S5
                    have w2_S5:=hG5.old w2 (by first | omega | (simp;omega)) (by omega)
                    try simp at w2_S5
                    have S5_o:∀ y,y<N→y≠R→S5.B y=Sr.B y:=fun y k1 k2=>by
                      have a1:=hG5.old y (by first | omega | (simp;omega)) k2
                      have y1:¬ y=u:=by omega
                      have y2:¬ y=w:=by omega
                      have y3:¬ y=w2:=by omega
                      try simp[y3] at a1
                      exact a1.trans (S4_o y k1 k2)
                    have S5_t:∀ y,y<N→S5.T y=Sr.T y:=fun y k1=>by
                      have a1:=hG5.T y (by first | omega | (simp;omega))
                      try simp at a1
                      exact a1.trans (S4_t' y k1)
                    refine CallT.calm [((1,11),7)] (by kernel_rfl) (by kernel_rfl) hL5 ?_ ?_
                    · simp[w2_S5,Eh.e,refOf]
                    have hvc:v.cells.length=5:=by cases v;rfl
                    simp[m5,S5_n,S5_gl,S5_md,w_S5,w2_S5,hvc]
                    refine⟨by unfold appBound;omega, .mk 5 0 ⟨#[]⟩ [.mk 2 a ⟨#[]⟩ [] [],v] [⟨#[97]⟩,⟨#[98]⟩], .mk (.inr (.inr ⟨S4.nx+6+9,0,by simp[valsCells,Val.cells]⟩)) (.inr (.inr ⟨S4.nx+3,0,rfl⟩)),?_,q5,⟨rfl,rfl,rfl,by simp;omega,by simp[n3,m1,S5_rd],?_,?_, .nil⟩,by omega⟩
                    · refine .mk (by decide) (by decide) (fun s hs=>?_) (by simp) (fun v' hv=>?_)
                      · simp only[List.mem_cons,List.not_mem_nil,or_false] at hs
                        rcases hs with rfl | rfl<;>decide
                      · simp only[List.mem_cons,List.not_mem_nil,or_false] at hv
                        rcases hv with rfl | rfl
                        · exact small0 (by decide)
                        · exact hvs
                    · intro y k1 k2
                      have z1:¬ y=u:=by omega
                      have z2:¬ y=w:=by omega
                      have z3:¬ y=w2:=by omega
                      simp[z2,z3,upd]
                      exact (S5_o y (by omega) k2).trans (by rw[hSr])
                    · intro y k1
                      have z4:¬ y=S4.nx+6+9:=by omega
                      simp[upd,z4]
                      exact (S5_t y (by omega)).trans (by rw[hSr])
                  · simp[S4_n,S4_gl,w_S4,w2_S4,g2]
                    refine⟨.mk 5 0 ⟨#[]⟩ [.mk 2 a ⟨#[]⟩ [] []] [⟨#[97]⟩], .mk (.inr (.inl (by simp[valsCells,Val.cells]))) (.inr (.inl rfl)),hs1,q+1+1,⟨rfl,rfl,rfl,by simp;omega,by simp[n3,S4_rd],?_,?_, .nil⟩,by omega⟩
                    · intro y k1 k2
                      have z1:¬ y=u:=by omega
                      have z2:¬ y=w:=by omega
                      have z3:¬ y=w2:=by omega
                      simp[z2]
                      exact (S4_o y (by omega) k2).trans (by rw[hSr])
                    · intro y k1
                      exact (S4_t y (by omega)).trans (by rw[hSr])
                · simp[S4_n,S4_gl,w_S4,w2_S4,g1]
                  refine⟨.mk 5 0 ⟨#[]⟩ [.mk 2 a ⟨#[]⟩ [] []] [⟨#[97]⟩], .mk (.inr (.inl (by simp[valsCells,Val.cells]))) (.inr (.inl rfl)),hs1,q+1+1,⟨rfl,rfl,rfl,by simp;omega,by simp[n3,S4_rd],?_,?_, .nil⟩,by omega⟩
                  · intro y k1 k2
                    have z1:¬ y=u:=by omega
                    have z2:¬ y=w:=by omega
                    have z3:¬ y=w2:=by omega
                    simp[z2]
                    exact (S4_o y (by omega) k2).trans (by rw[hSr])
                  · intro y k1
                    exact (S4_t y (by omega)).trans (by rw[hSr])
              · simp[S2_n,S2_md,f5]
                refine CallT.x (x_one _ R c q _ [7,3] (.inl rfl) (by simp) (by simp) (by first | omega | (simp;done)|(simp;omega)) (by simp[S2_rd]) hc (by omega)) rfl (fun r3 S3 h3=>?_)
                obtain⟨q3,hG3⟩:=h3
                subst q3
                have S3_n:=hG3.n
                try simp[S2_n] at S3_n
                have S3_gl:=hG3.gl
                try simp[S2_gl] at S3_gl
                have S3_md:=hG3.md
                try simp[S2_md] at S3_md
                have S3_nx:=hG3.nx
                try simp at S3_nx
                have S3_rd:=hG3.rd
                have u_S3:=hG3.old u (by first | omega | (simp;omega)) (by omega)
                try simp[u_S2] at u_S3
                have w_S3:=hG3.old w (by first | omega | (simp;omega)) (by omega)
                try simp[w_S2] at w_S3
                have S3_o:∀ y,y<N→y≠R→S3.B y=Sr.B y:=fun y k1 k2=>by
                  have a1:=hG3.old y (by first | omega | (simp;omega)) k2
                  have y1:¬ y=u:=by omega
                  have y2:¬ y=w:=by omega
                  try simp at a1
                  exact a1.trans (S2_o y k1 k2)
                have S3_t:∀ y,y<N→S3.T y=Sr.T y:=fun y k1=>by
                  have a1:=hG3.T y (by first | omega | (simp;omega))
                  try simp at a1
                  exact a1.trans (S2_t y k1)
                simp[S3_n,S3_md]
                have hnm:=ofK_mem c (q+1) (l:=[⟨#[67,65,84]⟩,⟨#[68,79,71]⟩,⟨#[67,65,84]⟩,⟨#[67,79,87]⟩]) (by simp)
                refine CallT.x (x_of _ R c (q+1) _ [⟨#[67,65,84]⟩,⟨#[68,79,71]⟩,⟨#[67,65,84]⟩,⟨#[67,79,87]⟩] (.inl rfl) (by simp) (by simp) (by first | omega | (simp;done)|(simp;omega)) (by simp[S3_rd]) hc (by omega)) rfl (fun r4 S4 h4=>?_)
                obtain⟨q4,hG4⟩:=h4
                subst q4
                have S4_n:=hG4.n
                try simp[S3_n] at S4_n
                have S4_gl:=hG4.gl
                try simp[S3_gl] at S4_gl
                have S4_md:=hG4.md
                try simp[S3_md] at S4_md
                have S4_nx:=hG4.nx
                try simp[h,Typ.cells,n1,n2,n3,n4,n5,n6,S2_n,S2_gl,S2_md,S2_rd,u_S2,w_S2,f1,f2,f3,f4,f5,S3_n,S3_gl,S3_md,S3_rd,u_S3,w_S3,S4_n,S4_gl,S4_md] at S4_nx
                have S4_rd:=hG4.rd
                have u_S4:=hG4.old u (by first | omega | (simp;omega)) (by omega)
                try simp[u_S3] at u_S4
                have w_S4:=hG4.old w (by first | omega | (simp;omega)) (by omega)
                try simp[w_S3] at w_S4
                have S4_o:∀ y,y<N→y≠R→S4.B y=Sr.B y:=fun y k1 k2=>by
                  have a1:=hG4.old y (by first | omega | (simp;omega)) k2
                  have y1:¬ y=u:=by omega
                  have y2:¬ y=w:=by omega
                  try simp[y1,y2] at a1
                  exact a1.trans (S3_o y k1 k2)
                have S4_t:∀ y,y<N→S4.T y=Sr.T y:=fun y k1=>by
                  have a1:=hG4.T y (by first | omega | (simp;omega))
                  try simp at a1
                  exact a1.trans (S3_t y k1)
                simp[S4_n,S4_gl,w_S4]
                generalize ofK c (q+1) _=nm at hnm
                have hnz:nm.size≤1048576:=by
                  simp only[List.mem_cons,List.not_mem_nil,or_false] at hnm
                  rcases hnm with rfl | rfl | rfl | rfl<;>decide
                refine⟨.mk (oneK c q [7,3]) 0 nm [] [], .mk (.inr (.inl rfl)) (.inr (.inl rfl)),small0 hnz,q+1+1,⟨rfl,rfl,rfl,by simp;omega,by simp[n3,S4_rd],?_,?_, .nil⟩,by omega⟩
                · intro y k1 k2
                  have z1:¬ y=u:=by omega
                  have z2:¬ y=w:=by omega
                  simp[z2]
                  exact (S4_o y (by omega) k2).trans (by rw[hSr])
                · intro y k1
                  exact (S4_t y (by omega)).trans (by rw[hSr])
abbrev givenN:List ByteArray:=[⟨#[73,110,116]⟩,⟨#[83,116,114,105,110,103]⟩,⟨#[66,111,111,108,101,97,110]⟩,⟨#[73,68]⟩,⟨#[75,105,110,100]⟩,⟨#[73,110]⟩,⟨#[80,101,114,115,111,110]⟩]
def valV:Val→List SV
  | .mk k m s l ns=>[.d (dI k), .d (dI m), .d (dS s), .d (.ps (valsCells l) l.length), .d (namesD ns)]
set_option maxHeartbeats 16000000 in
theorem l_drawFits (S0:St) (c:List UInt8) (hc:c.length≤140737488351232):∃ r S',LCall Tryz.prog 26 [.d (codeD c)] S0 r S'∧∃ (L:List Def) (t:Typ) (v:Val),r=.tu [.d (defsD L), .ag (typV t), .ag (valV v)]∧(∀ d∈L,DefK d)∧L.length≤20∧(∃ k,k≤2∧Wrap givenN k t)∧WF v∧S'.n=S0.n∧S'.gl=S0.gl∧S'.md=S0.md:=by
  have hco:(codeOf c).length≤2000:=by simp[codeOf];omega
  refine LCall.ex_ (md:=[]) Tryz.func26 rfl (by kernel_rfl) (by kernel_rfl) (n:=32) Tryz.ntmps26 (by simp) (by decide) rfl ?_
  simp
  refine CallT.x (x_open _ c hc) rfl (fun r0 S1 h1=>?_)
  obtain⟨R,rfl,i1,i2,S1_n,S1_gl,S1_md,S1_nx,hR,S1_o,S1_t⟩:=h1
  generalize codeOf c=c at *
  simp at S1_n S1_gl S1_md S1_nx i1
  obtain⟨p3,hp3⟩:∃ p,S0.nx+1=p:=⟨_,rfl⟩
  obtain⟨p4,hp4⟩:∃ p,S0.nx+2=p:=⟨_,rfl⟩
  have n1:¬ R=p3:=by omega
  have n2:¬ p3=R:=by omega
  have n3:¬ R=p4:=by omega
  have n4:¬ p4=R:=by omega
  have n5:¬ p3=p4:=by omega
  have n6:¬ p4=p3:=by omega
  have p3_S1:=S1_o p3 (by first | omega | (simp;done)|(simp;omega))
  have p4_S1:=S1_o p4 (by first | omega | (simp;done)|(simp;omega))
  rw[hp3,hp4] at p3_S1 p4_S1
  simp[n5] at p3_S1 p4_S1
  rw[hp3,hp4]
  simp[S1_n]
  refine CallT.x (d_schema _) rfl (fun r1 S2 h2=>?_)
  obtain⟨rfl,hG2⟩:=h2
  have S2_n:=hG2.n
  have S2_gl:=hG2.gl
  have S2_md:=hG2.md
  have S2_nx:=hG2.nx
  simp[S1_n,S1_gl,S1_md] at S2_n S2_gl S2_md S2_nx
  have S2_rd:=(hG2.old R (by first | omega | (simp;done)|(simp;omega))).trans hR
  have p3_S2:=(hG2.old p3 (by first | omega | (simp;done)|(simp;omega))).trans p3_S1
  have p4_S2:=(hG2.old p4 (by first | omega | (simp;done)|(simp;omega))).trans p4_S1
  obtain⟨N,hN⟩:∃ N,S2.nx=N:=⟨_,rfl⟩
  obtain⟨Sr,hSr⟩:∃ Sr,S2=Sr:=⟨_,rfl⟩
  have hrO:∀ y,y<N→y≠R→S2.B y=Sr.B y:=fun y _ _=>by rw[hSr]
  have hrT:∀ y,y<N→S2.T y=Sr.T y:=fun y _=>by rw[hSr]
  simp[S2_n]
  refine CallT.x (x_pick _ R c 0 8 (by first | omega | (simp;done)|(simp;omega)) (by simp[S2_rd]) hco (by omega) (by omega) (by omega)) rfl (fun r3 S3 h3=>?_)
  obtain⟨q3,hG3⟩:=h3
  subst q3
  have S3_n:=hG3.n
  try simp[S2_n] at S3_n
  have S3_gl:=hG3.gl
  try simp[S2_gl] at S3_gl
  have S3_md:=hG3.md
  try simp[S2_md] at S3_md
  have S3_nx:=hG3.nx
  try simp at S3_nx
  have S3_rd:=hG3.rd
  have p3_S3:=hG3.old p3 (by first | omega | (simp;omega)) (by omega)
  try simp[p3_S2] at p3_S3
  have p4_S3:=hG3.old p4 (by first | omega | (simp;omega)) (by omega)
  try simp[p4_S2] at p4_S3
  have S3_o:∀ y,y<N→y≠R→S3.B y=Sr.B y:=fun y k1 k2=>by
    have a1:=hG3.old y (by first | omega | (simp;omega)) k2
    try simp at a1
    exact a1.trans (hrO y k1 k2)
  have S3_t:∀ y,y<N→S3.T y=Sr.T y:=fun y k1=>by
    have a1:=hG3.T y (by first | omega | (simp;omega))
    try simp at a1
    exact a1.trans (hrT y k1)
  simp[S3_n]
  refine BrT.dec (fun c8=>?_) (fun c8=>?_)
  case' refine_1 =>
    simp[S3_n,c8]
    refine CallT.x (d_any _ R c 1 (by first | omega | (simp;done)|(simp;omega)) (by simp[S3_rd]) hco (by omega)) rfl (fun r4 S4 h4=>?_)
    obtain⟨L,q,rfl,hk4,hlen4,hG4,hq⟩:=h4
    have S4_n:=hG4.n
    try simp[S3_n] at S4_n
    have S4_gl:=hG4.gl
    try simp[S3_gl] at S4_gl
    have S4_md:=hG4.md
    try simp[S3_md] at S4_md
    have S4_nx:=hG4.nx
    try simp at S4_nx
    have S4_rd:=hG4.rd
    have p3_S4:=hG4.old p3 (by first | omega | (simp;omega)) (by omega)
    try simp[p3_S3] at p3_S4
    have p4_S4:=hG4.old p4 (by first | omega | (simp;omega)) (by omega)
    try simp[p4_S3] at p4_S4
    have S4_o:∀ y,y<N→y≠R→S4.B y=Sr.B y:=fun y k1 k2=>by
      have a1:=hG4.old y (by first | omega | (simp;omega)) k2
      try simp at a1
      exact a1.trans (S3_o y k1 k2)
    have S4_t:∀ y,y<N→S4.T y=Sr.T y:=fun y k1=>by
      have a1:=hG4.T y (by first | omega | (simp;omega))
      try simp at a1
      exact a1.trans (S3_t y k1)
    simp[S4_n,S4_md]
  case' refine_2 =>
    simp[S3_n,S3_md,c8]
    obtain⟨S4,hS4⟩:∃ S4,S4=S3:=⟨_,rfl⟩
    subst hS4
    have S4_n:=S3_n
    have S4_gl:=S3_gl
    have S4_md:=S3_md
    have S4_nx:N≤S4.nx:=by first | omega | (simp at S3_nx;omega)
    have p3_S4:=p3_S3
    have p4_S4:=p4_S3
    have S4_o:=S3_o
    have S4_t:=S3_t
    obtain⟨L,hL⟩:∃ L,L=schemaL:=⟨_,rfl⟩
    rw[← hL]
    have hk4:∀ d∈L,DefK d:=by rw[hL];exact schema_k
    have hlen4:L.length≤20:=by rw[hL];decide
    obtain⟨q,hq1,hq⟩:∃ q,q=1∧q≤1+100:=⟨_,rfl,by omega⟩
    have S4_rd:S4.B R=some (rdP c q):=by rw[hq1];exact S3_rd
    have S3_rd:=S4_rd
  all_goals
    have S4_nx2:N≤S4.nx:=by first | exact S4_nx | omega | (simp at S4_nx;omega)
    refine CallT.x (l_type13 _ R c q _ givenN (.inl rfl) (by simp) (by simp) (by first | omega | (simp;done)|(simp;omega)) (by simp[S3_rd,S4_rd]) hco (by omega)) rfl (fun r5 S5 h5=>?_)
    obtain⟨t,k,q5,rfl,hW,hk2,hG5,hq5⟩:=h5
    have S5_n:=hG5.n
    try simp[S3_n,S4_n] at S5_n
    have S5_gl:=hG5.gl
    try simp[S3_gl,S4_gl] at S5_gl
    have S5_md:=hG5.md
    try simp[S3_md,S4_md] at S5_md
    have S5_nx:=hG5.nx
    try simp at S5_nx
    have S5_rd:=hG5.rd
    have p3_S5:=hG5.old p3 (by first | omega | (simp;omega)) (by omega)
    try simp[p3_S3,p3_S4] at p3_S5
    have p4_S5:=hG5.old p4 (by first | omega | (simp;omega)) (by omega)
    try simp[p4_S3,p4_S4] at p4_S5
    have S5_o:∀ y,y<N→y≠R→S5.B y=Sr.B y:=fun y k1 k2=>by
      have a1:=hG5.old y (by first | omega | (simp;omega)) k2
      try simp at a1
      exact a1.trans (S4_o y k1 k2)
    have S5_t:∀ y,y<N→S5.T y=Sr.T y:=fun y k1=>by
      have a1:=hG5.T y (by first | omega | (simp;omega))
      try simp at a1
      exact a1.trans (S4_t y k1)
    obtain⟨ts,tl,tb⟩:=t
    simp[S5_n,typV]
    obtain⟨p7,hp7⟩:∃ p,S4.nx+3=p:=⟨_,rfl⟩
    rw[hp7]
    have m1:¬ R=p7:=by omega
    have m2:¬ p7=R:=by omega
    have m3:¬ p3=p7:=by omega
    have m4:¬ p7=p3:=by omega
    have m5:¬ p4=p7:=by omega
    have m6:¬ p7=p4:=by omega
    have m7:p7<S5.nx:=by first | omega | (simp at S5_nx;omega)
    refine CallT.x (x_pick _ R c q5 3 (by first | omega | (simp;done)|(simp;omega)) (by simp[S5_rd,m1]) hco (by omega) (by omega) (by omega)) rfl (fun r6 S6 h6=>?_)
    obtain⟨q6,hG6⟩:=h6
    subst q6
    have S6_n:=hG6.n
    try simp[S5_n] at S6_n
    have S6_gl:=hG6.gl
    try simp[S5_gl] at S6_gl
    have S6_md:=hG6.md
    try simp[S5_md] at S6_md
    have S6_nx:=hG6.nx
    try simp at S6_nx
    have S6_rd:=hG6.rd
    have p3_S6:=hG6.old p3 (by first | omega | (simp;omega)) (by omega)
    try simp[p3_S5,m3] at p3_S6
    have p4_S6:=hG6.old p4 (by first | omega | (simp;omega)) (by omega)
    try simp[p4_S5,m5] at p4_S6
    have p7_S6:=hG6.old p7 (by first | omega | (simp;omega)) (by omega)
    try simp at p7_S6
    have S6_o:∀ y,y<N→y≠R→S6.B y=Sr.B y:=fun y k1 k2=>by
      have a1:=hG6.old y (by first | omega | (simp;omega)) k2
      have y1:¬ y=p7:=by omega
      try simp[y1] at a1
      exact a1.trans (S5_o y k1 k2)
    have S6_t:∀ y,y<N→S6.T y=Sr.T y:=fun y k1=>by
      have a1:=hG6.T y (by first | omega | (simp;omega))
      try simp at a1
      exact a1.trans (S5_t y k1)
    simp[S6_n]
    refine BrT.dec (fun c3=>?_) (fun c3=>?_)
    · simp[S6_n,p7_S6,c3]
      refine⟨DrawT.mk (by kernel_rfl),?_⟩
      obtain⟨r7,S7,hL7,v,q7,rfl,hv,hG7,hq7⟩:=d_any13 c hco (S6.adv 7) R (q5+1) (by first | omega | (simp;done)|(simp;omega)) (by simp[S6_rd]) (by omega)
      have S7_n:=hG7.n
      have S7_gl:=hG7.gl
      have S7_md:=hG7.md
      simp[S6_n,S6_gl,S6_md] at S7_n S7_gl S7_md
      have p3_S7:=(hG7.old p3 (by first | omega | (simp;done)|(simp;omega)) (by omega)).trans p3_S6
      have p4_S7:=(hG7.old p4 (by first | omega | (simp;done)|(simp;omega)) (by omega)).trans p4_S6
      have p7_S7:=(hG7.old p7 (by first | omega | (simp;done)|(simp;omega)) (by omega)).trans p7_S6
      refine CallT.calm [((1,7),3)] (by kernel_rfl) (by kernel_rfl) hL7 ?_ ?_
      · simp[p7_S6,p7_S7,Eh.e,refOf]
      cases v with
      | mk vk vn vs vl vns =>
      simp[n5,n6,S7_n,S7_gl,p3_S7,p4_S7,Val.cells]
      exact⟨L, .mk ts tl tb, .mk vk vn vs vl vns,⟨⟨rfl,rfl⟩,rfl,rfl⟩,hk4,hlen4,⟨k,hk2,hW⟩,hv⟩
    · simp[S6_n,p7_S6,c3]
      refine⟨DrawT.mk (by kernel_rfl),?_⟩
      obtain⟨r7,S7,hL7,v,rfl,hv,q7,hG7,hq7⟩:=l_for13 c hco (defsD L) 4 (S6.adv 9) R (q5+1) (.mk ts tl tb) (Wrap.one hW) (by first | omega | (simp;done)|(simp;omega)) (by simp[S6_rd]) (by simp[fB];omega) (by omega)
      have hL7:=LCall.as (ss:=[SV.op R 0,SV.d (defsD L),SV.ag [SV.d (dS ts),SV.fl (typsCells tl) tl.length,SV.d (dB tb)],SV.d (D.v (Value.int IntKind.i64 4))]) hL7 (by repeat' (first | exact trivial | exact Or.inl rfl | exact Or.inr ⟨_,by first | (simp;done)|(simp;rfl),rfl⟩ | refine And.intro ?_ ?_))
      have S7_n:=hG7.n
      try simp[S6_n] at S7_n
      have S7_gl:=hG7.gl
      try simp[S6_gl] at S7_gl
      have S7_md:=hG7.md
      try simp[S6_md] at S7_md
      have S7_nx:=hG7.nx
      try simp at S7_nx
      have S7_rd:=hG7.rd
      have p3_S7:=hG7.old p3 (by first | omega | (simp;omega)) (by omega)
      try simp[p3_S6] at p3_S7
      have p4_S7:=hG7.old p4 (by first | omega | (simp;omega)) (by omega)
      try simp[p4_S6] at p4_S7
      have p7_S7:=hG7.old p7 (by first | omega | (simp;omega)) (by omega)
      try simp[p7_S6] at p7_S7
      have S7_o:∀ y,y<N→y≠R→S7.B y=Sr.B y:=fun y k1 k2=>by
        have a1:=hG7.old y (by first | omega | (simp;omega)) k2
        have y1:¬ y=p7:=by omega
        try simp at a1
        exact a1.trans (S6_o y k1 k2)
      have S7_t:∀ y,y<N→S7.T y=Sr.T y:=fun y k1=>by
        have a1:=hG7.T y (by first | omega | (simp;omega))
        try simp at a1
        exact a1.trans (S6_t y k1)
      refine CallT.calm [((1,7),5)] (by kernel_rfl) (by kernel_rfl) hL7 ?_ ?_
      · simp[p7_S6,p7_S7,Eh.e,refOf]
      cases v with
      | mk vk vn vs vl vns =>
      simp[n5,n6,S7_n,S7_gl,p3_S7,p4_S7,Val.cells]
      exact⟨L, .mk ts tl tb, .mk vk vn vs vl vns,⟨⟨rfl,rfl⟩,rfl,rfl⟩,hk4,hlen4,⟨k,hk2,hW⟩,small_wf hv⟩
set_option maxHeartbeats 8000000 in
theorem p_spFits (L:List Def) (hl:L.length≤1000000) (hsm:∀ d∈L,DefSm d) (t:Typ) (ht:TLe 4611686018427387904 t) (v:Val) (hv:WF v):PCall Tryz.prog gl 27 [defsD L,t.d,v.d] (dB (valB L t v)):=by
  have hC:=p_spCheck (gl:=gl) L (by omega) hsm
  have hT:=p_l2Type3 (gl:=gl) t ht
  have hO:=p_l1Ok (gl:=gl) v hv 6 true (by omega) (by omega)
  have hG:=p_l2Goes (gl:=gl) L (baseT t) true (by omega)
  have hB:=fun h=>p_l2Base (gl:=gl) t 3 h
  have hF:=fun (hd:∀ d∈L,defB d=true∧DefOk d) (h1:typB t 3=true) (h2:okB v 6 true=true)=>p_l2Fits (gl:=gl) L hl hd v t 3 h1 hv (tw_of _ _ _ h2)
  have hval:valB L t v=(decide (checkB L=0)&&(typB t 3&&(okB v 6 true&&(givenB L (baseT t)&&fitsB L t v)))):=rfl
  cases t with
  | mk tn tl tb =>
  cases v with
  | mk vk vn vs vl vns =>
  generalize valB L (.mk tn tl tb) (.mk vk vn vs vl vns)=r at hval
  refine PCall.by_ (md:=[]) Tryz.func27 rfl (by kernel_rfl) (n:=30) Tryz.ntmps27 (by simp) (by decide) rfl ?_
  simp[Typ.cells,Val.cells]
  repeat refine⟨DrawT.mk (by kernel_rfl),?_⟩
  refine CallT.p0 (hC) (by first | rfl | (simp;done)|(simp[Typ.cells,Val.cells];done)) (by first | rfl | (simp;done)|(simp;rfl)|(simp[Typ.cells,Val.cells];done)) ?_
  simp
  by_cases hz:checkB L=0
  · have hd:∀ d∈L,defB d=true∧DefOk d:=fun d hd=>⟨List.all_eq_true.1 (check_zero.1 hz).2.1 d hd,def_ok (hsm d hd)⟩
    rw[goes_in (fun d h=>(hd d h).1)] at hG
    simp[hz]
    repeat refine⟨DrawT.mk (by kernel_rfl),?_⟩
    refine CallT.p0 (hT) (by first | rfl | (simp;done)|(simp[Typ.cells,Val.cells];done)) (by first | rfl | (simp;done)|(simp;rfl)|(simp[Typ.cells,Val.cells];done)) ?_
    simp
    cases h1:typB (.mk tn tl tb) 3 with
    | false =>
      rw[h1] at hval
      simp
      simp[hval]
    | true =>
      have hB:=hB h1
      simp
      repeat refine⟨DrawT.mk (by kernel_rfl),?_⟩
      refine CallT.p0 (hB) (by first | rfl | (simp;done)|(simp[Typ.cells,Val.cells];done)) (by first | rfl | (simp;done)|(simp;rfl)|(simp[Typ.cells,Val.cells];done)) ?_
      simp
      repeat refine⟨DrawT.mk (by kernel_rfl),?_⟩
      refine CallT.p0 (hG) (by first | rfl | (simp;done)|(simp[Typ.cells,Val.cells];done)) (by first | rfl | (simp;done)|(simp;rfl)|(simp[Typ.cells,Val.cells];done)) ?_
      simp
      cases h3:givenB L (baseT (.mk tn tl tb)) with
      | false =>
        rw[h3] at hval
        simp
        simp[hval]
      | true =>
        simp
        repeat refine⟨DrawT.mk (by kernel_rfl),?_⟩
        refine CallT.p0 (hO) (by first | rfl | (simp;done)|(simp[Typ.cells,Val.cells];done)) (by first | rfl | (simp;done)|(simp;rfl)|(simp[Typ.cells,Val.cells];done)) ?_
        simp
        cases h2:okB (.mk vk vn vs vl vns) 6 true with
        | false =>
          rw[h2] at hval
          simp
          simp[hval]
        | true =>
          have hF:=hF hd h1 h2
          rw[hz,h1,h2,h3] at hval
          simp
          repeat refine⟨DrawT.mk (by kernel_rfl),?_⟩
          refine CallT.p0 (hF) (by first | rfl | (simp;done)|(simp[Typ.cells,Val.cells];done)) (by first | rfl | (simp;done)|(simp;rfl)|(simp[Typ.cells,Val.cells];done)) ?_
          simp
          simp[hval]
  · simp[hz]
    simp[hval,hz]
theorem typB_must (s:ByteArray) (l:List Typ) (b b':Bool) (d:Nat):typB (.mk s l b) d=typB (.mk s l b') d:=by
  cases d with
  | zero=>rfl
  | succ d=>unfold typB;rfl
theorem baseT_must (s:ByteArray) (l:List Typ) (b b':Bool):baseT (.mk s l b)=baseT (.mk s l b'):=by unfold baseT;rfl
theorem val_parts {L:List Def}{t:Typ}{v:Val} (h:valB L t v=true):checkB L=0∧typB t 3=true∧okB v 6 true=true∧givenB L (baseT t)=true∧fitsB L t v=true:=by
  unfold valB at h
  simpa[Bool.and_eq_true] using h
theorem val_of {L:List Def}{t:Typ}{v:Val} (h1:checkB L=0) (h2:typB t 3=true) (h3:okB v 6 true=true) (h4:givenB L (baseT t)=true):valB L t v=fitsB L t v:=by
  unfold valB
  rw[h1,h2,h3,h4];rfl
theorem null_ok:okB nullV 6 true=true:=by decide +kernel
theorem val_must {L:List Def}{s:ByteArray}{l:List Typ}{b:Bool}{vk vn:Int}{vs:ByteArray}{vl:List Val}{vns:List ByteArray} (h:valB L (.mk s l b) (.mk vk vn vs vl vns)=true) :
    valB L (.mk s l false) (.mk vk vn vs vl vns)=true∧valB L (.mk s l false) nullV=true∧valB L (.mk s l true) nullV=false∧valB L (.mk s l true) (.mk vk vn vs vl vns) = !decide (vk=0):=by
  obtain⟨h1,h2,h3,h4,h5⟩:=val_parts h
  have t1:=fun b'=>(typB_must s l b' b 3).trans h2
  have t2:=fun b'=>(congrArg (givenB L) (baseT_must s l b' b)).trans h4
  rw[val_of h1 (t1 _) h3 (t2 _),val_of h1 (t1 _) null_ok (t2 _),val_of h1 (t1 _) null_ok (t2 _),val_of h1 (t1 _) h3 (t2 _)]
  rw[fitsB_eq] at h5 ⊢
  rw[fitsB_eq,fitsB_eq,fitsB_eq]
  by_cases k0:vk=0
  · simp[k0]
  · rw[if_neg k0] at h5 ⊢
    simp[k0,h5]
theorem TLe.must {k:Nat}{s:ByteArray}{l:List Typ}{b b':Bool} (h:TLe k (.mk s l b)):TLe k (.mk s l b'):=by
  cases h with
  | mk h1 h2 h3=>exact .mk h1 h2 h3
theorem givenN_sz:∀ s∈givenN,s.size≤1048576:=by decide
set_option maxHeartbeats 32000000 in
theorem p_lawFnValueFits (c:List UInt8) (hc:c.length≤140737488351232):PCall Tryz.prog gl 6 [codeD c] (dB true):=by
  refine PCall.by_ (md:=[]) Tryz.func6 rfl (by kernel_rfl) (n:=71) Tryz.ntmps6 (by simp) (by decide) rfl ?_
  simp
  refine BrT.dec (fun hbig=>?_) (fun hbig=>?_)
  case refine_1=>simp[hbig]
  simp[hbig]
  refine CallT.x (l_drawFits _ c hc) rfl (fun r1 S1 h1=>?_)
  obtain⟨L,t,v,rfl,hK,hlen,⟨k,hk2,hW⟩,hv,S1_n,S1_gl,S1_md⟩:=h1
  simp at S1_n S1_gl S1_md
  have hsm:∀ d∈L,DefSm d:=fun d hd=>(hK d hd).1
  have ht:TLe 4611686018427387904 t:=(Wrap.tle givenN_sz hW).big
  have cI:=fun (gl:Nat→Option D) (t:Typ) (ht:TLe 4611686018427387904 t) (v:Val) (hv:WF v)=>p_imFits (gl:=gl) L (by omega) hsm t ht v hv
  have cS:=fun (gl:Nat→Option D)=>p_spFits (gl:=gl) L (by omega) hsm t ht v hv
  have hv0:WF nullV:=.mk (by decide) ⟨by simp,by simp⟩ (by simp) (by simp)
  obtain⟨ts,tl,tb⟩:=t
  obtain⟨vk,vn,vs,vl,vns⟩:=v
  have hpl:=fun h=>val_must (L:=L) (s:=ts) (l:=tl) (b:=tb) (vk:=vk) (vn:=vn) (vs:=vs) (vl:=vl) (vns:=vns) h
  have c0:=fun gl=>cI gl _ ht _ hv
  have c1:=fun gl=>cI gl _ (ht.must (b':=false)) _ hv
  have c2:=fun gl=>cI gl _ (ht.must (b':=false)) _ hv0
  have c3:=fun gl=>cI gl _ (ht.must (b':=true)) _ hv0
  have c4:=fun gl=>cI gl _ (ht.must (b':=true)) _ hv
  obtain⟨b0,hb0⟩:∃ b,valB L (.mk ts tl tb) (.mk vk vn vs vl vns)=b:=⟨_,rfl⟩
  rw[hb0] at c0 cS hpl
  simp[S1_n,typV,valV]
  repeat refine⟨DrawT.mk (by kernel_rfl),?_⟩
  refine CallT.p0 ((c0 _)) (by first | rfl | (simp;done)|(simp[hbig,S1_n,S1_gl,S1_md,typV,valV,Typ.cells,Val.cells];done)) (by first | rfl | (simp;done)|(simp;rfl)|(simp[hbig,S1_n,S1_gl,S1_md,typV,valV,Typ.cells,Val.cells];done)) ?_
  simp[S1_n]
  repeat refine⟨DrawT.mk (by kernel_rfl),?_⟩
  refine CallT.p0 ((cS _)) (by first | rfl | (simp;done)|(simp[hbig,S1_n,S1_gl,S1_md,typV,valV,Typ.cells,Val.cells];done)) (by first | rfl | (simp;done)|(simp;rfl)|(simp[hbig,S1_n,S1_gl,S1_md,typV,valV,Typ.cells,Val.cells];done)) ?_
  simp[S1_n,S1_gl]
  cases b0 with
  | false =>
    simp[S1_n]
    repeat refine⟨DrawT.mk (by kernel_rfl),?_⟩
    refine CallT.p0 ((cS _)) (by first | rfl | (simp;done)|(simp[hbig,S1_n,S1_gl,S1_md,typV,valV,Typ.cells,Val.cells];done)) (by first | rfl | (simp;done)|(simp;rfl)|(simp[hbig,S1_n,S1_gl,S1_md,typV,valV,Typ.cells,Val.cells];done)) ?_
    simp[S1_n,S1_gl]
  | true =>
    obtain⟨f1,f2,f3,f4⟩:=hpl rfl
    rw[f1] at c1
    rw[f2] at c2
    rw[f3] at c3
    rw[f4] at c4
    simp[S1_n]
    repeat refine⟨DrawT.mk (by kernel_rfl),?_⟩
    refine CallT.p0 ((c1 _)) (by first | rfl | (simp;done)|(simp[hbig,S1_n,S1_gl,S1_md,typV,valV,Typ.cells,Val.cells];done)) (by first | rfl | (simp;done)|(simp;rfl)|(simp[hbig,S1_n,S1_gl,S1_md,typV,valV,Typ.cells,Val.cells];done)) ?_
    simp[S1_n]
    repeat refine⟨DrawT.mk (by kernel_rfl),?_⟩
    refine CallT.p0 ((c2 _)) (by first | rfl | (simp;done)|(simp[hbig,S1_n,S1_gl,S1_md,typV,valV,Typ.cells,Val.cells];done)) (by first | rfl | (simp;done)|(simp;rfl)|(simp[hbig,S1_n,S1_gl,S1_md,typV,valV,Typ.cells,Val.cells];done)) ?_
    simp[S1_n]
    repeat refine⟨DrawT.mk (by kernel_rfl),?_⟩
    refine CallT.p0 ((c3 _)) (by first | rfl | (simp;done)|(simp[hbig,S1_n,S1_gl,S1_md,typV,valV,Typ.cells,Val.cells];done)) (by first | rfl | (simp;done)|(simp;rfl)|(simp[hbig,S1_n,S1_gl,S1_md,typV,valV,Typ.cells,Val.cells];done)) ?_
    simp[S1_n]
    repeat refine⟨DrawT.mk (by kernel_rfl),?_⟩
    refine CallT.p0 ((c4 _)) (by first | rfl | (simp;done)|(simp[hbig,S1_n,S1_gl,S1_md,typV,valV,Typ.cells,Val.cells];done)) (by first | rfl | (simp;done)|(simp;rfl)|(simp[hbig,S1_n,S1_gl,S1_md,typV,valV,Typ.cells,Val.cells];done)) ?_
    simp[S1_n,S1_gl]
end Go.Proofs.YtlmpjblmmpddeaaGreat
