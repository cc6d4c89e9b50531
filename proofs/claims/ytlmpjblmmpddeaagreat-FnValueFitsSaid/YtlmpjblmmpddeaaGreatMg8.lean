/- Vu and what follows it, one behind another. -/
import Derived.Test.YtlmpjblmmpddeaaGreatMg7
import Derived.Test.YtlmpjblmmpddeaaGreatMg6
import Derived.Test.YtlmpjblmmpddeaaGreatMg4
set_option linter.unusedVariables false
set_option linter.unusedSimpArgs false
set_option maxRecDepth 100000
namespace Go.Proofs.YtlmpjblmmpddeaaGreat
open Go.Sh
variable {gl:Nat→Option D}
abbrev nobodyS:ByteArray:=⟨#[78,111,98,111,100,121]⟩
def DefK (d:Def):Prop:=DefSm d∧d.name≠freshS∧d.name≠nobodyS
theorem schema_k:∀ d∈schemaL,DefK d:=fun d hd=>⟨schema_sm d hd,by
  have h:=List.all_eq_true.1 (by decide +kernel:schemaL.all (fun d=>decide (d.name≠freshS∧d.name≠nobodyS))=true) d hd
  simpa using h⟩
theorem schema_len:∀ d∈schemaL,d.flds.length≤8∧∀ f∈d.flds,f.args.length≤8:=fun d hd=>by
  have h:=List.all_eq_true.1 (by decide +kernel:schemaL.all (fun d=>decide (d.flds.length≤8)&&d.flds.all fun f=>decide (f.args.length≤8))=true) d hd
  simpa using h
theorem k_mid {LA LZ:List Def}{d d':Def} (h:∀ x∈LA++d::LZ,DefK x) (hd:DefK d'):∀ x∈LA++d'::LZ,DefK x:=by
  intro x hx
  rcases List.mem_append.1 hx with hx | hx
  · exact h x (List.mem_append_left _ hx)
  · rcases List.mem_cons.1 hx with rfl | hx
    · exact hd
    · exact h x (List.mem_append_right _ (List.mem_cons_of_mem _ hx))
set_option maxHeartbeats 32000000 in
theorem l_any (c:List UInt8) (hc:c.length≤2000) (S0:St) (R p:Nat) (hR:R<S0.nx) (h:S0.B R=some (rdP c p)) (hp:p≤800000) :
    ∃ r S',LCall Tryz.prog 44 [.op R 0] S0 r S'∧∃ L:List Def,LstG S' S0.nx S'.nx r L∧(∀ d∈L,DefK d)∧L.length≤20∧∃ q,Got S0 S' R (rdP c q) []∧q≤p+100:=by
  refine LCall.ex_ (md:=[1000121]) Tryz.func44 rfl (by kernel_rfl) (by kernel_rfl) (n:=181) Tryz.ntmps44 (by simp) (by decide) rfl ?_
  simp
  refine CallT.x (l_schema _) rfl (fun r1 S1 h1=>?_)
  obtain⟨x0,rfl,hx,hG1⟩:=h1
  have hx:x0.sh=skZ 4 7 (rowsZ Def.sz schemaL):=hx
  rcases ld_z hx with ⟨_,h0⟩ | ⟨b,cs0,rfl,hcs,_⟩
  · exact absurd h0 (by decide)
  have hlen:schemaL.length=7:=by decide
  have S1_n:=hG1.n
  have S1_gl:=hG1.gl
  have S1_md:=hG1.md
  have S1_nx:=hG1.nx
  simp at S1_n S1_gl S1_md S1_nx
  have hN1:=hG1.new
  simp at hN1
  have S1_o:∀ y,y<S0.nx→S1.B y=S0.B y:=fun y k=>by have:=hG1.old y (by simp;omega);simpa using this
  have S1_t:∀ y,y<S0.nx→S1.T y=S0.T y:=fun y k=>by have:=hG1.T y (by simp;omega);simpa using this
  have R_S1:=S1_o R hR
  rw[h] at R_S1
  obtain⟨N,hN⟩:∃ N,S1.nx=N:=⟨_,rfl⟩
  obtain⟨Sr,hSr⟩:∃ Sr,S1=Sr:=⟨_,rfl⟩
  have hrO:∀ y,y<N→y≠R→S1.B y=Sr.B y:=fun y _ _=>by rw[hSr]
  have hrT:∀ y,y<N→S1.T y=Sr.T y:=fun y _=>by rw[hSr]
  have hbb:=hN1.has (b,svs cs0) (by simp[varsL,Ld.vars])
  have hbr:=hN1.rng (b,svs cs0) (by simp[varsL,Ld.vars])
  simp only at hbb hbr
  have n1:¬ R=b:=by omega
  have n2:¬ b=R:=by omega
  simp[S1_n]
  refine CallT.x (x_pick _ R c p 7 (by first | omega | (simp;omega)) (by simp[R_S1]) hc (by omega) (by omega) (by omega)) rfl (fun r2 S2 h2=>?_)
  obtain⟨q2,hG2⟩:=h2
  subst q2
  have hk:=pickK_lt c p 7 (by omega)
  generalize pickK c p 7=k at hk
  have S2_n:=hG2.n
  try simp[S1_n] at S2_n
  have S2_gl:=hG2.gl
  try simp[S1_gl] at S2_gl
  have S2_md:=hG2.md
  try simp[S1_md] at S2_md
  have S2_nx:=hG2.nx
  try simp at S2_nx
  have S2_rd:=hG2.rd
  have b_S2:=hG2.old b (by first | omega | (simp;omega)) (by omega)
  try simp[hbb] at b_S2
  have S2_o:∀ y,y<N→y≠R→S2.B y=Sr.B y:=fun y k1 k2=>by
    have a1:=hG2.old y (by first | omega | (simp;omega)) k2
    try simp at a1
    exact a1.trans (hrO y k1 k2)
  have S2_t:∀ y,y<N→S2.T y=Sr.T y:=fun y k1=>by
    have a1:=hG2.T y (by first | omega | (simp;omega))
    try simp at a1
    exact a1.trans (hrT y k1)
  simp[S2_n]
  refine⟨by omega,?_⟩
  obtain⟨A,f,w0,Z,LA,d,LZ,rfl,hL,hAk,hAl,hA,hZ,hf,hw⟩:=defs_split hcs (by rw[hlen];exact hk)
  have hdep:depL (rowsZ Def.sz schemaL)<9:=by decide +kernel
  rw[← hcs,shs_app,shs_app,depL_app,depL_app] at hdep
  simp only[shs,depL] at hdep
  have hAl2:(svs A).length=k*4:=by rw[svs_len];exact hAl
  have hK0:∀ x∈LA++d::LZ,DefK x:=by rw[← hL];exact schema_k
  have hKd:DefK d:=hK0 d (by simp)
  have hLd:=schema_len d (by rw[hL];simp)
  have hL7:LA.length+1+LZ.length=7:=by
    have:=congrArg List.length hL
    rw[hlen] at this
    simp at this
    omega
  have hnd:=hN1.nodup
  simp only[varsL,Ld.vars,List.append_nil,List.map_cons,List.nodup_cons] at hnd
  have hvb:∀ p∈varsL (A++([.d (.string d.name), .d (.int .i64 d.kind),f,w0]++Z)),p.1≠b∧S0.nx≤p.1∧p.1<N∧S1.B p.1=some p.2:=fun p hp=>by
    have h1:=hN1.has p (by simp only[varsL,Ld.vars,List.append_nil];exact List.mem_cons_of_mem _ hp)
    have h2:=hN1.rng p (by simp only[varsL,Ld.vars,List.append_nil];exact List.mem_cons_of_mem _ hp)
    exact⟨fun e=>hnd.1 (List.mem_map.2 ⟨p,hp,e⟩),by omega,by omega,h1⟩
  have hvAZ:∀ p∈varsL (A++Z),p∈varsL (A++([.d (.string d.name), .d (.int .i64 d.kind),f,w0]++Z)):=fun p hp=>by
    rw[varsL_app] at hp ⊢
    rcases List.mem_append.1 hp with hp | hp
    · exact List.mem_append_left _ hp
    · refine List.mem_append_right _ ?_
      rw[varsL_app]
      exact List.mem_append_right _ hp
  have hvf:∀ p∈f.vars,p∈varsL (A++([.d (.string d.name), .d (.int .i64 d.kind),f,w0]++Z)):=fun p hp=>by
    rw[varsL_app,varsL_app]
    simp[varsL,Ld.vars,hp]
  have hvw:∀ p∈w0.vars,p∈varsL (A++([.d (.string d.name), .d (.int .i64 d.kind),f,w0]++Z)):=fun p hp=>by
    rw[varsL_app,varsL_app]
    simp[varsL,Ld.vars,hp]
  have fin:∀ (S':St) (hi:Nat) (c:List SV) (d':Def),N≤hi→S'.B b=some (svs A++(c++svs Z))→(∀ p∈varsL (A++Z),S'.B p.1=S1.B p.1)→(∀ B':Nat→Option (List SV),(∀ x,S0.nx≤x→x<hi→x≠b→B' x=S'.B x)→mapO (frz B' 12) c=some d'.cells)→LstF S' S0.nx hi (.sk b 7 4) (LA++d'::LZ):=fun S' hi c d' h1 h2 h3 h4=>by
    refine lst_of (by omega) (by omega) h2 hA hZ (by omega) (by omega) (fun p hp=>?_) h4 (by simp;omega)
    obtain⟨a1,a2,a3,a4⟩:=hvb p (hvAZ p hp)
    exact⟨a2,by omega,a1,(h3 p hp).trans a4⟩
  have fzf:∀ B':Nat→Option (List SV),(∀ p∈f.vars,B' p.1=some p.2)→frz B' 12 f.sv=some (fldsD d.flds):=fun B' hB'=>by
    have h1:=(frz_ld f 12 hB' (by omega)).1
    rw[h1,hf,skZ_data (fun e=>by rw[List.eq_nil_of_length_eq_zero e];rfl),rowsZ_data fld_szdata];rfl
  have fzw:∀ B':Nat→Option (List SV),(∀ p∈w0.vars,B' p.1=some p.2)→frz B' 12 w0.sv=some (namesD d.words):=fun B' hB'=>by
    have h1:=(frz_ld w0 12 hB' (by omega)).1
    rw[h1,hw,skT_data]
  have fin2:∀ (S':St) (hi:Nat) (c:List SV) (d':Def),N≤hi→S'.B b=some (svs A++(c++svs Z))→(∀ y,y<N→y≠R→y≠b→S'.B y=S1.B y)→(∀ B':Nat→Option (List SV),(∀ x,S0.nx≤x→x<hi→x≠b→B' x=S'.B x)→mapO (frz B' 12) c=some d'.cells)→LstF S' S0.nx hi (.sk b 7 4) (LA++d'::LZ):=fun S' hi c d' h1 h2 h3 h4=>fin S' hi c d' h1 h2 (fun p hp=>by
    obtain⟨a1,a2,a3,a4⟩:=hvb p (hvAZ p hp)
    exact h3 _ a3 (by omega) a1) h4
  have fzs:∀ (S':St) (hi:Nat),N≤hi→(∀ y,y<N→y≠R→y≠b→S'.B y=S1.B y)→∀ B':Nat→Option (List SV),(∀ x,S0.nx≤x→x<hi→x≠b→B' x=S'.B x)→frz B' 12 f.sv=some (fldsD d.flds)∧frz B' 12 w0.sv=some (namesD d.words):=fun S' hi h1 h2 B' hB'=>by
    refine⟨fzf B' fun p hp=>?_,fzw B' fun p hp=>?_⟩
    · obtain⟨a1,a2,a3,a4⟩:=hvb p (hvf p hp)
      rw[hB' _ a2 (by omega) a1,h2 _ a3 (by omega) a1,a4]
    · obtain⟨a1,a2,a3,a4⟩:=hvb p (hvw p hp)
      rw[hB' _ a2 (by omega) a1,h2 _ a3 (by omega) a1,a4]
  obtain⟨f1,f2,f3⟩:=z_one hf
  have hB0:svs (A++([.d (.string d.name), .d (.int .i64 d.kind),f,w0]++Z))=svs A++(.d (dS d.name)::.d (dI d.kind)::f.sv::w0.sv::svs Z):=by simp
  rw[hB0] at b_S2
  have lst0:∀ (S':St),(∀ y,y<N→y≠R→S'.B y=Sr.B y)→LstF S' S0.nx N (.sk b 7 4) schemaL:=fun S' hS'=>by
    have hS2:∀ y,y<N→y≠R→y≠b→S'.B y=S1.B y:=fun y k1 k2 _=>(hS' y k1 k2).trans (by rw[hSr])
    rw[hL]
    refine fin2 S' N [.d (dS d.name), .d (dI d.kind),f.sv,w0.sv] d (Nat.le_refl _) ?_ hS2 (fun B' hB'=>mapO4 rfl rfl (fzs S' N (Nat.le_refl _) hS2 B' hB').1 (fzs S' N (Nat.le_refl _) hS2 B' hB').2)
    rw[hS' b (by omega) n2, ← hSr,hbb,hB0]
    rfl
  have hZ4:k*4+(Z.length+4)=28:=by
    have:=congrArg List.length hZ
    rw[shs_len,rowsZ_len (fun x=>by simp:∀ x:Def,(Def.sz x).length=4)] at this
    omega
  have h28:∀ x y z w:SV,List.take 28 (svs A++x::y::z::w::svs Z)=svs A++x::y::z::w::svs Z:=fun x y z w=>List.take_of_length_le (by simp;omega)
  have gotE:∀ (S5 S':St) (q:Nat),(∀ y,y<N→y≠R→S5.B y=Sr.B y)→(∀ y,y<N→S5.T y=Sr.T y)→S'.n=S0.n→S'.gl=S0.gl→S'.md=S0.md→S0.nx≤S'.nx→S'.B R=some (rdP c q)→(∀ y,y<S0.nx→y≠R→S'.B y=S5.B y)→S'.T=S5.T→Got S0 S' R (rdP c q) []:=fun S5 S' q g1 g2 g3 g4 g5 g6 g7 g8 g9 =>
    ⟨g3,g4,g5,g6,g7,fun y k1 k2=>(g8 y k1 k2).trans ((g1 y (by omega) k2).trans ((by rw[hSr]:Sr.B y=S1.B y).trans (S1_o y k1))),fun y k1=>by rw[g9];exact (g2 y (by omega)).trans ((by rw[hSr]:Sr.T y=S1.T y).trans (S1_t y k1)), .nil⟩
  have gotT:∀ (S5 S':St) (q:Nat),(∀ y,y<N→y≠R→S5.B y=Sr.B y)→(∀ y,y<N→S5.T y=Sr.T y)→S'.n=S0.n→S'.gl=S0.gl→S'.md=S0.md→S0.nx≤S'.nx→S'.B R=some (rdP c q)→(∀ y,y<S0.nx→y≠R→S'.B y=S5.B y)→(∀ y,y<S0.nx→S'.T y=S5.T y)→Got S0 S' R (rdP c q) []:=fun S5 S' q g1 g2 g3 g4 g5 g6 g7 g8 g9 =>
    ⟨g3,g4,g5,g6,g7,fun y k1 k2=>(g8 y k1 k2).trans ((g1 y (by omega) k2).trans ((by rw[hSr]:Sr.B y=S1.B y).trans (S1_o y k1))),fun y k1=>by rw[g9 y k1];exact (g2 y (by omega)).trans ((by rw[hSr]:Sr.T y=S1.T y).trans (S1_t y k1)), .nil⟩
  have hdr:=fun j Y=>drop_add hAl2 j Y
  have htk:=fun j Y=>take_add hAl2 j Y
  have hd2:∀ Y:List SV,(svs A++Y).drop (k*4+1+1)=Y.drop 2:=fun Y=>drop_add hAl2 2 Y
  have hd3:∀ Y:List SV,(svs A++Y).drop (k*4+2+1)=Y.drop 3:=fun Y=>drop_add hAl2 3 Y
  refine CallT.x (x_pick _ R c (p+1) 14 (by first | omega | (simp;omega)) (by simp[S2_rd]) hc (by omega) (by omega) (by omega)) rfl (fun r3 S3 h3=>?_)
  obtain⟨q3,hG3⟩:=h3
  subst q3
  have hm:=pickK_lt c (p+1) 14 (by omega)
  generalize pickK c (p+1) 14=m at hm
  have S3_n:=hG3.n
  try simp[S2_n] at S3_n
  have S3_gl:=hG3.gl
  try simp[S2_gl] at S3_gl
  have S3_md:=hG3.md
  try simp[S2_md] at S3_md
  have S3_nx:=hG3.nx
  try simp at S3_nx
  have S3_rd:=hG3.rd
  have b_S3:=hG3.old b (by first | omega | (simp;omega)) (by omega)
  try simp[b_S2] at b_S3
  have S3_o:∀ y,y<N→y≠R→S3.B y=Sr.B y:=fun y k1 k2=>by
    have a1:=hG3.old y (by first | omega | (simp;omega)) k2
    try simp at a1
    exact a1.trans (S2_o y k1 k2)
  have S3_t:∀ y,y<N→S3.T y=Sr.T y:=fun y k1=>by
    have a1:=hG3.T y (by first | omega | (simp;omega))
    try simp at a1
    exact a1.trans (S2_t y k1)
  rcases (by omega:m=0∨m=1∨m=2∨m=3∨m=4∨m=5∨m=6∨m=7∨m=8∨9≤m) with rfl | rfl | rfl | rfl | rfl | rfl | rfl | rfl | rfl | hm9
  · simp[S3_n,S3_md]
    refine CallT.x (x_of _ R c (p+2) _ [⟨#[73,110,116]⟩,⟨#[81,117,101,114,121]⟩,⟨#[79,116,104,101,114]⟩,⟨#[49]⟩] (.inl rfl) (by simp) (by simp) (by first | omega | (simp;omega)) (by simp[S3_rd]) hc (by omega)) rfl (fun r4 S4 h4=>?_)
    obtain⟨q4,hG4⟩:=h4
    subst q4
    have S4_n:=hG4.n
    try simp[S3_n] at S4_n
    have S4_gl:=hG4.gl
    try simp[S3_gl] at S4_gl
    have S4_md:=hG4.md
    try simp[S3_md] at S4_md
    have S4_nx:=hG4.nx
    try simp at S4_nx
    have S4_rd:=hG4.rd
    have b_S4:=hG4.old b (by first | omega | (simp;omega)) (by omega)
    try simp[b_S3] at b_S4
    have S4_o:∀ y,y<N→y≠R→S4.B y=Sr.B y:=fun y k1 k2=>by
      have a1:=hG4.old y (by first | omega | (simp;omega)) k2
      try simp at a1
      exact a1.trans (S3_o y k1 k2)
    have S4_t:∀ y,y<N→S4.T y=Sr.T y:=fun y k1=>by
      have a1:=hG4.T y (by first | omega | (simp;omega))
      try simp at a1
      exact a1.trans (S3_t y k1)
    have hnm:=ofK_mem c (p+2) (l:=[⟨#[73,110,116]⟩,⟨#[81,117,101,114,121]⟩,⟨#[79,116,104,101,114]⟩,⟨#[49]⟩]) (by simp)
    generalize ofK c (p+2) _=nm at hnm
    have hnm2:nm.size≤40∧nm≠freshS∧nm≠nobodyS:=by
      simp only[List.mem_cons,List.not_mem_nil,or_false] at hnm
      rcases hnm with rfl | rfl | rfl | rfl<;>decide
    simp[hAl2,hdr,S4_n,S4_gl,b_S4]
    refine⟨LA++⟨nm,d.kind,d.flds,d.words⟩::LZ,LstF.g ?_,k_mid hK0 ?_,by simp;omega,p+3,⟨rfl,rfl,rfl,by simp;omega,by simp[n1,S4_rd],?_,?_, .nil⟩,by omega⟩
    · have hold:∀ y,y<N→y≠R→y≠b→(S4.set b (svs A++(.d (dS nm)::.d (dI d.kind)::f.sv::w0.sv::svs Z))).B y=S1.B y:=fun y k1 k2 k3=>by
        simp[k3]
        exact (S4_o y k1 k2).trans (by rw[hSr])
      refine fin2 _ _ [.d (dS nm), .d (dI d.kind),f.sv,w0.sv] ⟨nm,d.kind,d.flds,d.words⟩ (by first | omega | (simp;done)|(simp;omega)) (by simp) (fun y k1 k2 k3=>?_) (fun B' hB'=>?_)
      · simp[k3]
        exact (S4_o y k1 k2).trans (by rw[hSr])
      · obtain⟨z1,z2⟩:=fzs (S4.set b (svs A++(.d (dS nm)::.d (dI d.kind)::f.sv::w0.sv::svs Z))) _ (Nat.le_refl _) hold B' (fun x k1 k2 k3=>(hB' x k1 (by first | omega | (simp;done)|(simp;omega)) k3).trans (by simp[k3]))
        exact mapO4 rfl rfl z1 z2
    · exact⟨⟨by show nm.size≤_;omega,hKd.1.2⟩,hnm2.2⟩
    · intro y k1 k2
      have z1:¬ y=b:=by omega
      have a4:=S4_o y (by omega) k2
      simp[z1]
      exact a4.trans ((by rw[hSr]:Sr.B y=S1.B y).trans (S1_o y k1))
    · intro y k1
      have a4:=S4_t y (by omega)
      simp
      exact a4.trans ((by rw[hSr]:Sr.T y=S1.T y).trans (S1_t y k1))
  · simp[S3_n,S3_md]
    refine CallT.x (x_one _ R c (p+2) _ [0,1,2,3,4,5] (.inl rfl) (by simp) (by simp) (by first | omega | (simp;omega)) (by simp[S3_rd]) hc (by omega)) rfl (fun r4 S4 h4=>?_)
    obtain⟨q4,hG4⟩:=h4
    subst q4
    have S4_n:=hG4.n
    try simp[S3_n] at S4_n
    have S4_gl:=hG4.gl
    try simp[S3_gl] at S4_gl
    have S4_md:=hG4.md
    try simp[S3_md] at S4_md
    have S4_nx:=hG4.nx
    try simp at S4_nx
    have S4_rd:=hG4.rd
    have b_S4:=hG4.old b (by first | omega | (simp;omega)) (by omega)
    try simp[b_S3] at b_S4
    have S4_o:∀ y,y<N→y≠R→S4.B y=Sr.B y:=fun y k1 k2=>by
      have a1:=hG4.old y (by first | omega | (simp;omega)) k2
      try simp at a1
      exact a1.trans (S3_o y k1 k2)
    have S4_t:∀ y,y<N→S4.T y=Sr.T y:=fun y k1=>by
      have a1:=hG4.T y (by first | omega | (simp;omega))
      try simp at a1
      exact a1.trans (S3_t y k1)
    generalize oneK c (p+2) _=nk
    simp[hAl2,htk,hd2,S4_n,S4_gl,b_S4]
    refine⟨by omega,?_⟩
    refine⟨LA++⟨d.name,nk,d.flds,d.words⟩::LZ,LstF.g ?_,k_mid hK0 ?_,by simp;omega,p+3,⟨rfl,rfl,rfl,by simp;omega,by simp[n1,S4_rd],?_,?_, .nil⟩,by omega⟩
    · have hold:∀ y,y<N→y≠R→y≠b→(S4.set b (svs A++(.d (dS d.name)::.d (dI nk)::f.sv::w0.sv::svs Z))).B y=S1.B y:=fun y k1 k2 k3=>by
        simp[k3]
        exact (S4_o y k1 k2).trans (by rw[hSr])
      refine fin2 _ _ [.d (dS d.name), .d (dI nk),f.sv,w0.sv] ⟨d.name,nk,d.flds,d.words⟩ (by first | omega | (simp;done)|(simp;omega)) (by simp) (fun y k1 k2 k3=>?_) (fun B' hB'=>?_)
      · simp[k3]
        exact (S4_o y k1 k2).trans (by rw[hSr])
      · obtain⟨z1,z2⟩:=fzs (S4.set b (svs A++(.d (dS d.name)::.d (dI nk)::f.sv::w0.sv::svs Z))) _ (Nat.le_refl _) hold B' (fun x k1 k2 k3=>(hB' x k1 (by first | omega | (simp;done)|(simp;omega)) k3).trans (by simp[k3]))
        exact mapO4 rfl rfl z1 z2
    · exact hKd
    · intro y k1 k2
      have z1:¬ y=b:=by omega
      have a4:=S4_o y (by omega) k2
      simp[z1]
      exact a4.trans ((by rw[hSr]:Sr.B y=S1.B y).trans (S1_o y k1))
    · intro y k1
      have a4:=S4_t y (by omega)
      simp
      exact a4.trans ((by rw[hSr]:Sr.T y=S1.T y).trans (S1_t y k1))
  · simp[hAl2,S3_n,b_S3]
    rcases ld_z hf with ⟨rfl,hf0⟩ | ⟨b2,fc,rfl,hfc,hf0⟩
    · simp[S3_n,S3_gl]
      refine⟨schemaL,LstF.g ((lst0 S3 S3_o).keep (fun _ _ _=>rfl) (Nat.le_refl _) (by omega)),schema_k,by decide,p+2,gotE S3 _ (p+2) S3_o S3_t rfl rfl rfl (by simp;omega) S3_rd (fun _ _ _=>rfl) rfl,by omega⟩
    · have hfp:0<d.flds.length:=by omega
      have hvf2:=hvb (b2,svs fc) (hvf _ (by simp[Ld.vars]))
      have b2_S3:=S3_o b2 hvf2.2.2.1 (by have:=hvf2.2.1;omega)
      rw[← hSr,hvf2.2.2.2] at b2_S3
      have n7:¬ b=b2:=fun e=>hvf2.1 e.symm
      have n8:¬ b2=b:=fun e=>hvf2.1 e
      have n9:¬ b2=R:=by have:=hvf2.2.1;omega
      simp[hAl2,S3_n,b_S3,hfp]
      refine⟨DrawT.mk (by kernel_rfl),?_⟩
      obtain⟨r4,S4,hL4,q4,hG4⟩:=x_pick (((((S3.adv 2).adv 2).adv 2).adv 6).adv 17) R c (p+2) d.flds.length (by first | omega | (simp;omega)) (by simp[S3_rd]) hc (by omega) (by omega) (by omega)
      subst q4
      have hi5:=pickK_lt c (p+2) d.flds.length (by omega)
      generalize pickK c (p+2) d.flds.length=i at hi5 hL4
      obtain⟨A2,a2,T2,Z2,LA2,g2,LZ2,rfl,hL2,hA2k,hA2l,hA2,hZ2,ha2,hT2⟩:=flds_split hfc hi5
      obtain⟨ta,tb,tc,rfl⟩:=three_of (by rw[← shs_len,hT2];simp:T2.length=3)
      obtain⟨x1,x2,x3⟩:=z_one ha2
      have hA2s:(svs A2).length=i*5:=by rw[svs_len];exact hA2l
      have hdr2:=fun j Y=>drop_add hA2s j Y
      have htk2:=fun j Y=>take_add hA2s j Y
      have hd5:∀ Y:List SV,(svs A2++Y).drop (i*5+2+3)=Y.drop 5:=fun Y=>drop_add hA2s 5 Y
      simp only[svs_app,svs_cons,Ld.sv_d,List.cons_append,List.nil_append] at b2_S3
      have S4_n:=hG4.n
      try simp[S3_n] at S4_n
      have S4_gl:=hG4.gl
      try simp[S3_gl] at S4_gl
      have S4_md:=hG4.md
      try simp[S3_md] at S4_md
      have S4_nx:=hG4.nx
      try simp at S4_nx
      have S4_rd:=hG4.rd
      have b_S4:=hG4.old b (by first | omega | (simp;omega)) (by omega)
      try simp[b_S3] at b_S4
      have b2_S4:=hG4.old b2 (by first | omega | (simp;omega)) (by omega)
      try simp[b2_S3] at b2_S4
      have S4_o:∀ y,y<N→y≠R→S4.B y=Sr.B y:=fun y k1 k2=>by
        have a1:=hG4.old y (by first | omega | (simp;omega)) k2
        try simp at a1
        exact a1.trans (S3_o y k1 k2)
      have S4_t:∀ y,y<N→S4.T y=Sr.T y:=fun y k1=>by
        have a1:=hG4.T y (by first | omega | (simp;omega))
        try simp at a1
        exact a1.trans (S3_t y k1)
      refine CallT.calm [((3,5),10)] (by kernel_rfl) (by kernel_rfl) hL4 ?_ ?_
      · simp[b_S3,b_S4,Eh.e,refOf]
      simp[S4_n,S4_md]
      obtain⟨r5,S5,hL5,t5,kk5,q5,hr5,hW5,hk5,hG5,hq5⟩:=l_type13 S4 R c (p+3) (.fl [dS ⟨#[73,110,116]⟩,dS ⟨#[78,111,110,101]⟩,dS ⟨#[73,110]⟩,dS ⟨#[80,101,114,115,111,110]⟩,dS ⟨#[75,105,110,100]⟩] 5) [⟨#[73,110,116]⟩,⟨#[78,111,110,101]⟩,⟨#[73,110]⟩,⟨#[80,101,114,115,111,110]⟩,⟨#[75,105,110,100]⟩] (.inl rfl) (by simp) (by simp) (by first | omega | (simp;omega)) (by simp[S4_rd]) hc (by omega)
      subst hr5
      have S5_n:=hG5.n
      try simp[S4_n] at S5_n
      have S5_gl:=hG5.gl
      try simp[S4_gl] at S5_gl
      have S5_md:=hG5.md
      try simp[S4_md] at S5_md
      have S5_nx:=hG5.nx
      try simp[h,S1_n,S1_gl,S1_md,R_S1,n1,n2,hbb,S2_n,S2_gl,S2_md,S2_rd,b_S2,hAl2,f1,f2,f3,hdr,htk,hd2,hd3,S3_n,S3_gl,S3_md,S3_rd,b_S3,hfp,b2_S3,n7,n8,n9,S4_n,S4_gl,S4_md,S4_rd,b_S4,b2_S4,x1,x2,x3,hA2s,hdr2,htk2,hd5,S5_n,S5_gl,S5_md] at S5_nx
      have S5_rd:=hG5.rd
      have b_S5:=hG5.old b (by first | omega | (simp;omega)) (by omega)
      try simp[b_S4] at b_S5
      have b2_S5:=hG5.old b2 (by first | omega | (simp;omega)) (by omega)
      try simp[b2_S4] at b2_S5
      have S5_o:∀ y,y<N→y≠R→S5.B y=Sr.B y:=fun y k1 k2=>by
        have a1:=hG5.old y (by first | omega | (simp;omega)) k2
        try simp at a1
        exact a1.trans (S4_o y k1 k2)
      have S5_t:∀ y,y<N→S5.T y=Sr.T y:=fun y k1=>by
        have a1:=hG5.T y (by first | omega | (simp;omega))
        try simp at a1
        exact a1.trans (S4_t y k1)
      refine CallT.calm [((3,5),13)] (by kernel_rfl) (by kernel_rfl) hL5 ?_ ?_
      · simp[b_S4,b_S5,Eh.e,refOf]
      have htl:=hW5.tle (by simp;decide)
      obtain⟨s5,l5,m5⟩:=t5
      simp only[typV]
      simp[hA2s,htk2,hd5,S5_n,S5_gl,b2_S5]
      have hl2:Z2.length+1+1+1+1+1≥5:=by omega
      refine⟨hi5,by omega,?_⟩
      obtain⟨hm1,hm2,hm3⟩:=vars_mid hnd.2
      have hfd:d.flds=LA2++g2::LZ2:=hL2
      refine⟨LA++⟨d.name,d.kind,LA2++⟨g2.name,g2.args, .mk s5 l5 m5⟩::LZ2,d.words⟩::LZ,LstF.g ?_,k_mid hK0 ?_,by simp;omega,q5,gotE S5 _ q5 S5_o S5_t rfl rfl rfl (by simp;omega) ?_ ?_ rfl,by omega⟩
      · refine fin _ _ [.d (dS d.name), .d (dI d.kind), .sk b2 d.flds.length 5,w0.sv] ⟨d.name,d.kind,LA2++⟨g2.name,g2.args, .mk s5 l5 m5⟩::LZ2,d.words⟩ (by first | omega | (simp;omega)) (by simp[n7,b_S5]) (fun p hp=>?_) (fun B' hB'=>?_)
        · have z3:¬ p.1=b2:=hm1 p hp
          obtain⟨a1,a2,a3,a4⟩:=hvb p (hvAZ p hp)
          simp[z3]
          exact (S5_o _ a3 (by omega)).trans (by rw[hSr])
        · have hq:∀ x,S0.nx≤x→x<N→x≠b→x≠b2→B' x=S1.B x:=fun x k1 k2 k3 k4=>by
            have h9:=hB' x k1 (by first | omega | (simp;omega)) k3
            simp[k4] at h9
            exact h9.trans ((S5_o x k2 (by omega)).trans (by rw[hSr]))
          have hid9:=hB' b2 hvf2.2.1 (by have:=hvf2.2.2.1;first | omega | (simp;omega)) n8
          simp at hid9
          have hv9:∀ p∈varsL (A2++([Ld.d (.string g2.name),a2]++([ta,tb,tc]++Z2))),B' p.1=some p.2:=fun p hp=>by
            obtain⟨a1,a2,a3,a4⟩:=hvb p (hvf p (by simp only[Ld.vars];exact List.mem_cons_of_mem _ hp))
            rw[hq _ a2 a3 a1 (hm2 p hp),a4]
          have hdp:depL (shs (A2++([Ld.d (.string g2.name),a2]++([ta,tb,tc]++Z2))))<11:=by
            have:=hdep
            simp only[Ld.sh,Sk.dep] at this
            omega
          rw[shs_app,depL_app,shs_app,depL_app,shs_app,depL_app] at hdp
          have r1:=(frz_lds (B:=B') A2 11 (fun p hp=>hv9 p (by rw[varsL_app];exact List.mem_append_left _ hp)) (by omega)).1
          have r2:=(frz_lds (B:=B') [Ld.d (.string g2.name),a2] 11 (fun p hp=>hv9 p (by rw[varsL_app];exact List.mem_append_right _ (by rw[varsL_app];exact List.mem_append_left _ hp))) (by omega)).1
          have r3:=(frz_lds (B:=B') Z2 11 (fun p hp=>hv9 p (by rw[varsL_app];exact List.mem_append_right _ (by rw[varsL_app];exact List.mem_append_right _ (by rw[varsL_app];exact List.mem_append_right _ hp)))) (by omega)).1
          have r4:mapO (frz B' 11) [SV.d (dS s5),SV.fl (typsCells l5) l5.length,SV.d (dB m5)]=some [dS s5, .ps (typsCells l5) l5.length,dB m5]:=rfl
          have e9:mapO (frz B' 11) (svs A2++SV.d (D.v (Value.string g2.name))::a2.sv::SV.d (dS s5)::SV.fl (typsCells l5) l5.length::SV.d (dB m5)::svs Z2)=some (fldsCells (LA2++⟨g2.name,g2.args, .mk s5 l5 m5⟩::LZ2)):=by
            have h9:=mapO_app r1 (mapO_app r2 (mapO_app r4 r3))
            have e5:dataL (shs [Ld.d (.string g2.name),a2])=[dS g2.name,argsD g2.args]:=by
              simp only[shs,Ld.sh,dataL,Sk.data,ha2]
              rw[skZ_data (fun e=>by rw[List.eq_nil_of_length_eq_zero e];rfl),rowsZ_data arg_szdata];rfl
            rw[e5,hA2,hZ2,rowsZ_data fld_szdata,rowsZ_data fld_szdata] at h9
            simpa[fldsCells,Fld.cells,Typ.cells] using h9
          refine mapO4 rfl rfl ?_ (fzw B' fun p hp=>?_)
          · show (match B' b2 with | some cs=>(mapO (frz B' 11) cs).map fun ds=>D.ps ds d.flds.length | none=>none)=_
            rw[hid9]
            show Option.map (fun ds=>D.ps ds d.flds.length) (mapO (frz B' 11) _)=_
            rw[e9,hfd]
            simp
          · obtain⟨a1,a2,a3,a4⟩:=hvb p (hvw p hp)
            rw[hq _ a2 a3 a1 (hm3 p hp),a4]
      · have hg2:=hKd.1.2.1.2 g2 (by rw[hfd];simp)
        refine⟨⟨hKd.1.1,⟨by have:=hLd.1;rw[hfd] at this;simp at this ⊢;omega,fun x hx=>?_⟩,hKd.1.2.2⟩,hKd.2⟩
        rcases List.mem_append.1 hx with hx | hx
        · exact hKd.1.2.1.2 x (by rw[hfd];exact List.mem_append_left _ hx)
        · rcases List.mem_cons.1 hx with rfl | hx
          · exact⟨hg2.1,hg2.2.1,htl⟩
          · exact hKd.1.2.1.2 x (by rw[hfd];exact List.mem_append_right _ (List.mem_cons_of_mem _ hx))
      · simp[show ¬ R=b2 from fun e=>n9 e.symm]
        exact S5_rd
      · intro y k1 k2
        have z3:¬ y=b2:=by have:=hvf2.2.1;omega
        simp[z3]
  · simp[hAl2,S3_n,b_S3]
    rcases ld_z hf with ⟨rfl,hf0⟩ | ⟨b2,fc,rfl,hfc,hf0⟩
    · simp[S3_n,S3_gl]
      refine⟨schemaL,LstF.g ((lst0 S3 S3_o).keep (fun _ _ _=>rfl) (Nat.le_refl _) (by omega)),schema_k,by decide,p+2,gotE S3 _ (p+2) S3_o S3_t rfl rfl rfl (by simp;omega) S3_rd (fun _ _ _=>rfl) rfl,by omega⟩
    · have hfp:0<d.flds.length:=by omega
      have hvf2:=hvb (b2,svs fc) (hvf _ (by simp[Ld.vars]))
      have b2_S3:=S3_o b2 hvf2.2.2.1 (by have:=hvf2.2.1;omega)
      rw[← hSr,hvf2.2.2.2] at b2_S3
      have n7:¬ b=b2:=fun e=>hvf2.1 e.symm
      have n8:¬ b2=b:=fun e=>hvf2.1 e
      have n9:¬ b2=R:=by have:=hvf2.2.1;omega
      simp[hAl2,S3_n,b_S3,hfp]
      refine⟨DrawT.mk (by kernel_rfl),?_⟩
      obtain⟨r4,S4,hL4,q4,hG4⟩:=x_pick ((((((S3.adv 2).adv 2).adv 2).adv 2).adv 6).adv 13) R c (p+2) d.flds.length (by first | omega | (simp;omega)) (by simp[S3_rd]) hc (by omega) (by omega) (by omega)
      subst q4
      have hi5:=pickK_lt c (p+2) d.flds.length (by omega)
      generalize pickK c (p+2) d.flds.length=i at hi5 hL4
      obtain⟨A2,a2,T2,Z2,LA2,g2,LZ2,rfl,hL2,hA2k,hA2l,hA2,hZ2,ha2,hT2⟩:=flds_split hfc hi5
      obtain⟨ta,tb,tc,rfl⟩:=three_of (by rw[← shs_len,hT2];simp:T2.length=3)
      obtain⟨x1,x2,x3⟩:=z_one ha2
      have hA2s:(svs A2).length=i*5:=by rw[svs_len];exact hA2l
      have hdr2:=fun j Y=>drop_add hA2s j Y
      have htk2:=fun j Y=>take_add hA2s j Y
      have hd5:∀ Y:List SV,(svs A2++Y).drop (i*5+2+3)=Y.drop 5:=fun Y=>drop_add hA2s 5 Y
      simp only[svs_app,svs_cons,Ld.sv_d,List.cons_append,List.nil_append] at b2_S3
      have S4_n:=hG4.n
      try simp[S3_n] at S4_n
      have S4_gl:=hG4.gl
      try simp[S3_gl] at S4_gl
      have S4_md:=hG4.md
      try simp[S3_md] at S4_md
      have S4_nx:=hG4.nx
      try simp at S4_nx
      have S4_rd:=hG4.rd
      have b_S4:=hG4.old b (by first | omega | (simp;omega)) (by omega)
      try simp[b_S3] at b_S4
      have b2_S4:=hG4.old b2 (by first | omega | (simp;omega)) (by omega)
      try simp[b2_S3] at b2_S4
      have S4_o:∀ y,y<N→y≠R→S4.B y=Sr.B y:=fun y k1 k2=>by
        have a1:=hG4.old y (by first | omega | (simp;omega)) k2
        try simp at a1
        exact a1.trans (S3_o y k1 k2)
      have S4_t:∀ y,y<N→S4.T y=Sr.T y:=fun y k1=>by
        have a1:=hG4.T y (by first | omega | (simp;omega))
        try simp at a1
        exact a1.trans (S3_t y k1)
      refine CallT.calm [((3,5),10)] (by kernel_rfl) (by kernel_rfl) hL4 ?_ ?_
      · simp[b_S3,b_S4,Eh.e,refOf]
      have hi5':(i:Int)<d.flds.length:=by omega
      obtain⟨hm1,hm2,hm3⟩:=vars_mid hnd.2
      have hfd:d.flds=LA2++g2::LZ2:=hL2
      have hZ2l:i*5+(Z2.length+5)=d.flds.length*5:=by
        have:=congrArg List.length hfc
        simp only[shs_len,rowsZ_len (fun x=>by simp:∀ x:Fld,(Fld.sz x).length=5)] at this
        simp at this
        omega
      have fin3:∀ (S':St) (hi:Nat) (NEW:SV) (args':List Arg),N≤hi→S'.B b=some (svs A++([.d (dS d.name), .d (dI d.kind), .sk b2 d.flds.length 5,w0.sv]++svs Z))→S'.B b2=some (svs A2++(.d (dS g2.name)::NEW::ta.sv::tb.sv::tc.sv::svs Z2))→(∀ y,y<N→y≠R→y≠b2→S'.B y=S1.B y) →
          (∀ B':Nat→Option (List SV),(∀ x,S0.nx≤x→x<hi→x≠b→B' x=S'.B x)→(∀ p∈varsL (A2++([Ld.d (.string g2.name),a2]++([ta,tb,tc]++Z2))),B' p.1=some p.2)→frz B' 11 NEW=some (argsD args')) →
          LstF S' S0.nx hi (.sk b 7 4) (LA++⟨d.name,d.kind,LA2++⟨g2.name,args',g2.ty⟩::LZ2,d.words⟩::LZ):=fun S' hi NEW args' w1 w2 w3 w4 w5=>by
        refine fin S' hi [.d (dS d.name), .d (dI d.kind), .sk b2 d.flds.length 5,w0.sv] ⟨d.name,d.kind,LA2++⟨g2.name,args',g2.ty⟩::LZ2,d.words⟩ w1 w2 (fun p hp=>?_) (fun B' hB'=>?_)
        · obtain⟨a1,a2,a3,a4⟩:=hvb p (hvAZ p hp)
          exact w4 _ a3 (by omega) (hm1 p hp)
        · have hq:∀ x,S0.nx≤x→x<N→x≠b→x≠b2→B' x=S1.B x:=fun x k1 k2 k3 k4=>(hB' x k1 (by omega) k3).trans (w4 x k2 (by omega) k4)
          have hid9:=hB' b2 hvf2.2.1 (by have:=hvf2.2.2.1;omega) n8
          rw[w3] at hid9
          have hv9:∀ p∈varsL (A2++([Ld.d (.string g2.name),a2]++([ta,tb,tc]++Z2))),B' p.1=some p.2:=fun p hp=>by
            obtain⟨a1,a2,a3,a4⟩:=hvb p (hvf p (by simp only[Ld.vars];exact List.mem_cons_of_mem _ hp))
            rw[hq _ a2 a3 a1 (hm2 p hp),a4]
          have hdp:depL (shs (A2++([Ld.d (.string g2.name),a2]++([ta,tb,tc]++Z2))))<11:=by
            have:=hdep
            simp only[Ld.sh,Sk.dep] at this
            omega
          rw[shs_app,depL_app,shs_app,depL_app,shs_app,depL_app] at hdp
          have r1:=(frz_lds (B:=B') A2 11 (fun p hp=>hv9 p (by rw[varsL_app];exact List.mem_append_left _ hp)) (by omega)).1
          have r2:=(frz_lds (B:=B') [ta,tb,tc] 11 (fun p hp=>hv9 p (by rw[varsL_app];exact List.mem_append_right _ (by rw[varsL_app];exact List.mem_append_right _ (by rw[varsL_app];exact List.mem_append_left _ hp)))) (by omega)).1
          have r3:=(frz_lds (B:=B') Z2 11 (fun p hp=>hv9 p (by rw[varsL_app];exact List.mem_append_right _ (by rw[varsL_app];exact List.mem_append_right _ (by rw[varsL_app];exact List.mem_append_right _ hp)))) (by omega)).1
          have r4:mapO (frz B' 11) [SV.d (dS g2.name),NEW]=some [dS g2.name,argsD args']:=by
            have:=w5 B' hB' hv9
            simp[mapO,this]
          have e9:mapO (frz B' 11) (svs A2++(.d (dS g2.name)::NEW::ta.sv::tb.sv::tc.sv::svs Z2))=some (fldsCells (LA2++⟨g2.name,args',g2.ty⟩::LZ2)):=by
            have h9:=mapO_app r1 (mapO_app r4 (mapO_app r2 r3))
            rw[hT2,typ_szdata,hA2,hZ2,rowsZ_data fld_szdata,rowsZ_data fld_szdata] at h9
            simpa[fldsCells,Fld.cells] using h9
          refine mapO4 rfl rfl ?_ (fzw B' fun p hp=>?_)
          · show (match B' b2 with | some cs=>(mapO (frz B' 11) cs).map fun ds=>D.ps ds d.flds.length | none=>none)=_
            rw[hid9]
            show Option.map (fun ds=>D.ps ds d.flds.length) (mapO (frz B' 11) _)=_
            rw[e9,hfd]
            simp
          · obtain⟨a1,a2,a3,a4⟩:=hvb p (hvw p hp)
            rw[hq _ a2 a3 a1 (hm3 p hp),a4]
      have kfin:∀ args':List Arg,args'.length≤9→(∀ x∈args',ArgSm x)→DefK ⟨d.name,d.kind,LA2++⟨g2.name,args',g2.ty⟩::LZ2,d.words⟩:=fun args' e1 e2=>by
        have hg2:=hKd.1.2.1.2 g2 (by rw[hfd];simp)
        refine⟨⟨hKd.1.1,⟨by have:=hLd.1;rw[hfd] at this;simp at this ⊢;omega,fun x hx=>?_⟩,hKd.1.2.2⟩,hKd.2⟩
        rcases List.mem_append.1 hx with hx | hx
        · exact hKd.1.2.1.2 x (by rw[hfd];exact List.mem_append_left _ hx)
        · rcases List.mem_cons.1 hx with rfl | hx
          · exact⟨hg2.1,⟨by show args'.length≤_;omega,e2⟩,hg2.2.2⟩
          · exact hKd.1.2.1.2 x (by rw[hfd];exact List.mem_append_right _ (List.mem_cons_of_mem _ hx))
      have hg2:=hKd.1.2.1.2 g2 (by rw[show d.flds=LA2++g2::LZ2 from hL2];simp)
      have hga:=hLd.2 g2 (by rw[show d.flds=LA2++g2::LZ2 from hL2];simp)
      rcases ld_z ha2 with ⟨rfl,ha0⟩ | ⟨b3,ac,rfl,hac,ha0⟩
      case' inr =>
        have hv3:=hvb (b3,svs ac) (hvf _ (by simp[Ld.vars,varsL_app,varsL]))
        have b3_S4:=S4_o b3 hv3.2.2.1 (by have:=hv3.2.1;omega)
        rw[← hSr,hv3.2.2.2] at b3_S4
        have hacl:ac.length=g2.args.length*10:=by rw[← shs_len,hac,rowsZ_len (fun x=>by simp:∀ x:Arg,(Arg.sz x).length=10)]
        have htk3:List.take (g2.args.length*10) (svs ac)=svs ac:=List.take_of_length_le (by simp;omega)
        have hab3:appBound 0 g2.args.length 152:=by unfold appBound;omega
        have hpos:0<g2.args.length:=by omega
        simp[S4_n,S4_md,b2_S4,hA2s,b3_S4,hacl,htk3,hab3,hpos,hi5',appV,onlyIf]
        obtain⟨i3,hi3⟩:∃ i3,S4.nx+6=i3:=⟨_,rfl⟩
        rw[hi3]
        have j1:¬ R=i3:=by omega
        have j2:¬ i3=R:=by omega
        have j3:¬ b2=i3:=by have:=hvf2.2.2.1;omega
        have j4:¬ i3=b2:=by have:=hvf2.2.2.1;omega
        have j5:¬ b=i3:=by omega
        have j6:¬ i3=b:=by omega
        have hb2N:b2<N:=hvf2.2.2.1
        have hab4:appBound g2.args.length 1 152:=by unfold appBound;omega
        refine CallT.x (x_of _ R c (p+3) _ [⟨#[120]⟩,⟨#[102,105,114,115,116]⟩,⟨#[105,100]⟩] (.inl rfl) (by simp) (by simp) (by first | omega | (simp;omega)) (by simp[S4_rd,j1]) hc (by omega)) rfl (fun r5 S5 h5=>?_)
        obtain⟨q5,hG5⟩:=h5
        subst q5
        have S5_n:=hG5.n
        try simp[S4_n] at S5_n
        have S5_gl:=hG5.gl
        try simp[S4_gl] at S5_gl
        have S5_md:=hG5.md
        try simp[S4_md] at S5_md
        have S5_nx:=hG5.nx
        try simp at S5_nx
        have S5_rd:=hG5.rd
        have b_S5:=hG5.old b (by first | omega | (simp;omega)) (by omega)
        try simp[b_S4,j5] at b_S5
        have b2_S5:=hG5.old b2 (by first | omega | (simp;omega)) (by omega)
        try simp[b2_S4,j3] at b2_S5
        have i3_S5:=hG5.old i3 (by first | omega | (simp;omega)) (by omega)
        try simp at i3_S5
        have S5_o:∀ y,y<N→y≠R→S5.B y=Sr.B y:=fun y k1 k2=>by
          have a1:=hG5.old y (by first | omega | (simp;omega)) k2
          have y1:¬ y=i3:=by omega
          try simp[y1] at a1
          exact a1.trans (S4_o y k1 k2)
        have S5_t:∀ y,y<N→S5.T y=Sr.T y:=fun y k1=>by
          have a1:=hG5.T y (by first | omega | (simp;omega))
          try simp at a1
          exact a1.trans (S4_t y k1)
        have hnm:=ofK_mem c (p+3) (l:=[⟨#[120]⟩,⟨#[102,105,114,115,116]⟩,⟨#[105,100]⟩]) (by simp)
        generalize ofK c (p+3) _=nm at hnm
        have hnm2:nm.size≤40:=by
          simp only[List.mem_cons,List.not_mem_nil,or_false] at hnm
          rcases hnm with rfl | rfl | rfl<;>decide
        simp[S5_n,S5_md]
        refine CallT.x (l_type13 _ R c (p+4) _ [⟨#[73,110,116]⟩,⟨#[73,110]⟩,⟨#[80,101,116]⟩,⟨#[75,105,110,100]⟩] (.inl rfl) (by simp) (by simp) (by first | omega | (simp;omega)) (by simp[S5_rd]) hc (by omega)) rfl (fun r6 S6 h6=>?_)
        obtain⟨t6,k6,q6,hr6,hW6,hk6,hG6,hq6⟩:=h6
        subst hr6
        have S6_n:=hG6.n
        try simp[S5_n] at S6_n
        have S6_gl:=hG6.gl
        try simp[S5_gl] at S6_gl
        have S6_md:=hG6.md
        try simp[S5_md] at S6_md
        have S6_nx:=hG6.nx
        try simp[h,S1_n,S1_gl,S1_md,R_S1,n1,n2,hbb,S2_n,S2_gl,S2_md,S2_rd,b_S2,hAl2,f1,f2,f3,hdr,htk,hd2,hd3,S3_n,S3_gl,S3_md,S3_rd,b_S3,hfp,b2_S3,n7,n8,n9,S4_n,S4_gl,S4_md,S4_rd,b_S4,b2_S4,x1,x2,x3,hA2s,hdr2,htk2,hd5,b3_S4,hacl,htk3,hab3,hpos,j1,j2,j3,j4,j5,j6,hab4,S5_n,S5_gl,S5_md,S5_rd,b_S5,b2_S5,i3_S5,S6_n,S6_gl,S6_md] at S6_nx
        have S6_rd:=hG6.rd
        have b_S6:=hG6.old b (by first | omega | (simp;omega)) (by omega)
        try simp[b_S5] at b_S6
        have b2_S6:=hG6.old b2 (by first | omega | (simp;omega)) (by omega)
        try simp[b2_S5] at b2_S6
        have i3_S6:=hG6.old i3 (by first | omega | (simp;omega)) (by omega)
        try simp[i3_S5] at i3_S6
        have S6_o:∀ y,y<N→y≠R→S6.B y=Sr.B y:=fun y k1 k2=>by
          have a1:=hG6.old y (by first | omega | (simp;omega)) k2
          have y1:¬ y=i3:=by omega
          try simp[y1] at a1
          exact a1.trans (S5_o y k1 k2)
        have S6_t:∀ y,y<N→S6.T y=Sr.T y:=fun y k1=>by
          have a1:=hG6.T y (by first | omega | (simp;omega))
          try simp at a1
          exact a1.trans (S5_t y k1)
        have htl:=hW6.tle (by simp;decide)
        obtain⟨s6,l6,m6⟩:=t6
        simp only[typV]
        simp[S6_n]
        refine CallT.x (x_pick _ R c q6 2 (by first | omega | (simp;omega)) (by simp[S6_rd]) hc (by omega) (by omega) (by omega)) rfl (fun r7 S7 h7=>?_)
        obtain⟨q7,hG7⟩:=h7
        subst q7
        have S7_n:=hG7.n
        try simp[S6_n] at S7_n
        have S7_gl:=hG7.gl
        try simp[S6_gl] at S7_gl
        have S7_md:=hG7.md
        try simp[S6_md] at S7_md
        have S7_nx:=hG7.nx
        try simp[h,S1_n,S1_gl,S1_md,R_S1,n1,n2,hbb,S2_n,S2_gl,S2_md,S2_rd,b_S2,hAl2,f1,f2,f3,hdr,htk,hd2,hd3,S3_n,S3_gl,S3_md,S3_rd,b_S3,hfp,b2_S3,n7,n8,n9,S4_n,S4_gl,S4_md,S4_rd,b_S4,b2_S4,x1,x2,x3,hA2s,hdr2,htk2,hd5,b3_S4,hacl,htk3,hab3,hpos,j1,j2,j3,j4,j5,j6,hab4,S5_n,S5_gl,S5_md,S5_rd,b_S5,b2_S5,i3_S5,S6_n,S6_gl,S6_md,S6_rd,b_S6,b2_S6,i3_S6,S7_n,S7_gl,S7_md] at S7_nx
        have S7_rd:=hG7.rd
        have b_S7:=hG7.old b (by first | omega | (simp;omega)) (by omega)
        try simp[b_S6] at b_S7
        have b2_S7:=hG7.old b2 (by first | omega | (simp;omega)) (by omega)
        try simp[b2_S6] at b2_S7
        have i3_S7:=hG7.old i3 (by first | omega | (simp;omega)) (by omega)
        try simp[i3_S6] at i3_S7
        have S7_o:∀ y,y<N→y≠R→S7.B y=Sr.B y:=fun y k1 k2=>by
          have a1:=hG7.old y (by first | omega | (simp;omega)) k2
          have y1:¬ y=i3:=by omega
          try simp[y1] at a1
          exact a1.trans (S6_o y k1 k2)
        have S7_t:∀ y,y<N→S7.T y=Sr.T y:=fun y k1=>by
          have a1:=hG7.T y (by first | omega | (simp;omega))
          try simp at a1
          exact a1.trans (S6_t y k1)
        simp[S7_n]
        have hp2:pB 2=80:=rfl
        refine CallT.x (l_value13 c hc 2 _ R (q6+1) (by first | omega | (simp;omega)) (by simp[S7_rd]) (by omega) (by omega)) rfl (fun r8 S8 h8=>?_)
        obtain⟨v8,hv8,hvs8,q8,hG8,hq8⟩:=h8
        have S8_n:=hG8.n
        try simp[S7_n] at S8_n
        have S8_gl:=hG8.gl
        try simp[S7_gl] at S8_gl
        have S8_md:=hG8.md
        try simp[S7_md] at S8_md
        have S8_nx:=hG8.nx
        try simp[h,S1_n,S1_gl,S1_md,R_S1,n1,n2,hbb,S2_n,S2_gl,S2_md,S2_rd,b_S2,hAl2,f1,f2,f3,hdr,htk,hd2,hd3,S3_n,S3_gl,S3_md,S3_rd,b_S3,hfp,b2_S3,n7,n8,n9,S4_n,S4_gl,S4_md,S4_rd,b_S4,b2_S4,x1,x2,x3,hA2s,hdr2,htk2,hd5,b3_S4,hacl,htk3,hab3,hpos,j1,j2,j3,j4,j5,j6,hab4,S5_n,S5_gl,S5_md,S5_rd,b_S5,b2_S5,i3_S5,S6_n,S6_gl,S6_md,S6_rd,b_S6,b2_S6,i3_S6,S7_n,S7_gl,S7_md,S7_rd,b_S7,b2_S7,i3_S7,S8_n,S8_gl,S8_md] at S8_nx
        have S8_rd:=hG8.rd
        have b_S8:=hG8.old b (by first | omega | (simp;omega)) (by omega)
        try simp[b_S7] at b_S8
        have b2_S8:=hG8.old b2 (by first | omega | (simp;omega)) (by omega)
        try simp[b2_S7] at b2_S8
        have i3_S8:=hG8.old i3 (by first | omega | (simp;omega)) (by omega)
        try simp[i3_S7] at i3_S8
        have S8_o:∀ y,y<N→y≠R→S8.B y=Sr.B y:=fun y k1 k2=>by
          have a1:=hG8.old y (by first | omega | (simp;omega)) k2
          have y1:¬ y=i3:=by omega
          try simp[y1] at a1
          exact a1.trans (S7_o y k1 k2)
        have S8_t:∀ y,y<N→S8.T y=Sr.T y:=fun y k1=>by
          have a1:=hG8.T y (by first | omega | (simp;omega))
          try simp at a1
          exact a1.trans (S7_t y k1)
        obtain⟨hX8,hY8⟩:=hv8
        obtain⟨u1,u2,u3⟩:=hX8.one
        obtain⟨u4,u5,u6⟩:=hY8.one
        have hxD:=hX8.toD
        have hyD:=hY8.toD
        have hab1:appBound 0 1 152:=by unfold appBound;omega
        simp[hacl,htk3,j3,hab4,S8_n,S8_md,b2_S8,i3_S8,hxD,hyD]
        rename_i kv mv sv lv nv Xv Yv
        obtain⟨i4,hi4⟩:∃ i4,S4.nx+20=i4:=⟨_,rfl⟩
        rw[hi4]
        have y1:¬ R=i4:=by omega
        have y3:¬ b2=i4:=by omega
        have y5:¬ b=i4:=by omega
        have y6:¬ i4=b:=by omega
        have y7:¬ i4=b2:=by omega
        have y8:¬ i4=i3:=by omega
        have y9:i*5+1+1≤i*5+(Z2.length+1+1+1+1+1):=by omega
        simp[hA2s,htk2,S8_n,S8_gl,y3,y9]
        have nRb2:¬ R=b2:=by have:=hvf2.2.1;omega
        refine⟨LA++⟨d.name,d.kind,LA2++⟨g2.name,g2.args++[⟨nm, .mk s6 l6 m6,decide (pickK c q6 2=0), .mk kv mv sv lv nv⟩],g2.ty⟩::LZ2,d.words⟩::LZ,LstF.g (fin3 _ _ (.sk i4 (g2.args.length+1) 10) _ (by omega) (by simp[n7,j5,b_S8,y5]) ?_ (fun y k1 k2 k3=>?_) (fun B' hB' hv9=>?_)),k_mid hK0 (kfin _ (by simp;omega) ?_),by simp;omega,q8,gotT S8 _ q8 S8_o S8_t rfl rfl rfl (by simp;omega) ?_ ?_ ?_,by omega⟩
        · simp
          exact drop_add hA2s 2 _
        · have z3:¬ y=i4:=by omega
          have z4:¬ y=i3:=by omega
          simp[k3,z3,z4]
          exact (S8_o y k1 k2).trans (by rw[hSr])
        · have h4:=hB' i4 (by omega) (by first | omega | (simp;omega)) y6
          simp[y7] at h4
          have hdp:depL (shs ac)<10:=by
            have:=hdep
            simp only[Ld.sh,Sk.dep,shs_app,depL_app,shs,depL] at this
            omega
          have r1:=(frz_lds (B:=B') ac 10 (fun p hp=>hv9 p (by
            rw[varsL_app,varsL_app]
            simp[varsL,Ld.vars,hp])) hdp).1
          rw[hac,rowsZ_data arg_szdata] at r1
          have r2:mapO (frz B' 10) [SV.d (D.v (Value.string nm)),SV.d (dS s6),SV.d (D.ps (typsCells l6) l6.length),SV.d (dB m6),SV.d (D.v (Value.bool (decide (pickK c q6 2=0)))),SV.d (dI kv),SV.d (dI mv),SV.d (dS sv),SV.d (D.ps (valsCells lv) lv.length),SV.d (D.ps (List.map dS nv) nv.length)]=some (Arg.cells ⟨nm, .mk s6 l6 m6,decide (pickK c q6 2=0), .mk kv mv sv lv nv⟩):=by
            simp[mapO,frz,Arg.cells,Typ.cells,Val.cells]
          show (match B' i4 with | some cs=>(mapO (frz B' 10) cs).map fun ds=>D.ps ds (g2.args.length+1) | none=>none)=_
          rw[h4]
          show Option.map (fun ds=>D.ps ds (g2.args.length+1)) (mapO (frz B' 10) _)=_
          rw[mapO_app r1 r2]
          simp[argsCells]
        · intro x hx
          rcases List.mem_append.1 hx with hx | hx
          · exact hg2.2.1.2 x hx
          · rw[List.mem_singleton] at hx
            subst hx
            exact⟨by show nm.size≤_;omega,htl,hvs8⟩
        · simp[nRb2,y1,j1]
          exact S8_rd
        · intro y k1 k2
          have z3:¬ y=b2:=by have:=hvf2.2.1;omega
          have z4:¬ y=i4:=by omega
          have z5:¬ y=i3:=by omega
          simp[z3,z4,z5]
        · intro y k1;rfl
      case' inl =>
        simp[S4_n,S4_md,b2_S4,hA2s,hi5']
        have hb2N:b2<N:=hvf2.2.2.1
        refine CallT.x (x_of _ R c (p+3) _ [⟨#[120]⟩,⟨#[102,105,114,115,116]⟩,⟨#[105,100]⟩] (.inl rfl) (by simp) (by simp) (by first | omega | (simp;omega)) (by simp[S4_rd]) hc (by omega)) rfl (fun r5 S5 h5=>?_)
        obtain⟨q5,hG5⟩:=h5
        subst q5
        have S5_n:=hG5.n
        try simp[S4_n] at S5_n
        have S5_gl:=hG5.gl
        try simp[S4_gl] at S5_gl
        have S5_md:=hG5.md
        try simp[S4_md] at S5_md
        have S5_nx:=hG5.nx
        try simp at S5_nx
        have S5_rd:=hG5.rd
        have b_S5:=hG5.old b (by first | omega | (simp;omega)) (by omega)
        try simp[b_S4] at b_S5
        have b2_S5:=hG5.old b2 (by first | omega | (simp;omega)) (by omega)
        try simp[b2_S4] at b2_S5
        have S5_o:∀ y,y<N→y≠R→S5.B y=Sr.B y:=fun y k1 k2=>by
          have a1:=hG5.old y (by first | omega | (simp;omega)) k2
          try simp at a1
          exact a1.trans (S4_o y k1 k2)
        have S5_t:∀ y,y<N→S5.T y=Sr.T y:=fun y k1=>by
          have a1:=hG5.T y (by first | omega | (simp;omega))
          try simp at a1
          exact a1.trans (S4_t y k1)
        have hnm:=ofK_mem c (p+3) (l:=[⟨#[120]⟩,⟨#[102,105,114,115,116]⟩,⟨#[105,100]⟩]) (by simp)
        generalize ofK c (p+3) _=nm at hnm
        have hnm2:nm.size≤40:=by
          simp only[List.mem_cons,List.not_mem_nil,or_false] at hnm
          rcases hnm with rfl | rfl | rfl<;>decide
        simp[S5_n,S5_md]
        refine CallT.x (l_type13 _ R c (p+4) _ [⟨#[73,110,116]⟩,⟨#[73,110]⟩,⟨#[80,101,116]⟩,⟨#[75,105,110,100]⟩] (.inl rfl) (by simp) (by simp) (by first | omega | (simp;omega)) (by simp[S5_rd]) hc (by omega)) rfl (fun r6 S6 h6=>?_)
        obtain⟨t6,k6,q6,hr6,hW6,hk6,hG6,hq6⟩:=h6
        subst hr6
        have S6_n:=hG6.n
        try simp[S5_n] at S6_n
        have S6_gl:=hG6.gl
        try simp[S5_gl] at S6_gl
        have S6_md:=hG6.md
        try simp[S5_md] at S6_md
        have S6_nx:=hG6.nx
        try simp[h,S1_n,S1_gl,S1_md,R_S1,n1,n2,hbb,S2_n,S2_gl,S2_md,S2_rd,b_S2,hAl2,f1,f2,f3,hdr,htk,hd2,hd3,S3_n,S3_gl,S3_md,S3_rd,b_S3,hfp,b2_S3,n7,n8,n9,S4_n,S4_gl,S4_md,S4_rd,b_S4,b2_S4,x1,x2,x3,hA2s,hdr2,htk2,hd5,S5_n,S5_gl,S5_md,S5_rd,b_S5,b2_S5,S6_n,S6_gl,S6_md] at S6_nx
        have S6_rd:=hG6.rd
        have b_S6:=hG6.old b (by first | omega | (simp;omega)) (by omega)
        try simp[b_S5] at b_S6
        have b2_S6:=hG6.old b2 (by first | omega | (simp;omega)) (by omega)
        try simp[b2_S5] at b2_S6
        have S6_o:∀ y,y<N→y≠R→S6.B y=Sr.B y:=fun y k1 k2=>by
          have a1:=hG6.old y (by first | omega | (simp;omega)) k2
          try simp at a1
          exact a1.trans (S5_o y k1 k2)
        have S6_t:∀ y,y<N→S6.T y=Sr.T y:=fun y k1=>by
          have a1:=hG6.T y (by first | omega | (simp;omega))
          try simp at a1
          exact a1.trans (S5_t y k1)
        have htl:=hW6.tle (by simp;decide)
        obtain⟨s6,l6,m6⟩:=t6
        simp only[typV]
        simp[S6_n]
        refine CallT.x (x_pick _ R c q6 2 (by first | omega | (simp;omega)) (by simp[S6_rd]) hc (by omega) (by omega) (by omega)) rfl (fun r7 S7 h7=>?_)
        obtain⟨q7,hG7⟩:=h7
        subst q7
        have S7_n:=hG7.n
        try simp[S6_n] at S7_n
        have S7_gl:=hG7.gl
        try simp[S6_gl] at S7_gl
        have S7_md:=hG7.md
        try simp[S6_md] at S7_md
        have S7_nx:=hG7.nx
        try simp[h,S1_n,S1_gl,S1_md,R_S1,n1,n2,hbb,S2_n,S2_gl,S2_md,S2_rd,b_S2,hAl2,f1,f2,f3,hdr,htk,hd2,hd3,S3_n,S3_gl,S3_md,S3_rd,b_S3,hfp,b2_S3,n7,n8,n9,S4_n,S4_gl,S4_md,S4_rd,b_S4,b2_S4,x1,x2,x3,hA2s,hdr2,htk2,hd5,S5_n,S5_gl,S5_md,S5_rd,b_S5,b2_S5,S6_n,S6_gl,S6_md,S6_rd,b_S6,b2_S6,S7_n,S7_gl,S7_md] at S7_nx
        have S7_rd:=hG7.rd
        have b_S7:=hG7.old b (by first | omega | (simp;omega)) (by omega)
        try simp[b_S6] at b_S7
        have b2_S7:=hG7.old b2 (by first | omega | (simp;omega)) (by omega)
        try simp[b2_S6] at b2_S7
        have S7_o:∀ y,y<N→y≠R→S7.B y=Sr.B y:=fun y k1 k2=>by
          have a1:=hG7.old y (by first | omega | (simp;omega)) k2
          try simp at a1
          exact a1.trans (S6_o y k1 k2)
        have S7_t:∀ y,y<N→S7.T y=Sr.T y:=fun y k1=>by
          have a1:=hG7.T y (by first | omega | (simp;omega))
          try simp at a1
          exact a1.trans (S6_t y k1)
        simp[S7_n]
        have hp2:pB 2=80:=rfl
        refine CallT.x (l_value13 c hc 2 _ R (q6+1) (by first | omega | (simp;omega)) (by simp[S7_rd]) (by omega) (by omega)) rfl (fun r8 S8 h8=>?_)
        obtain⟨v8,hv8,hvs8,q8,hG8,hq8⟩:=h8
        have S8_n:=hG8.n
        try simp[S7_n] at S8_n
        have S8_gl:=hG8.gl
        try simp[S7_gl] at S8_gl
        have S8_md:=hG8.md
        try simp[S7_md] at S8_md
        have S8_nx:=hG8.nx
        try simp[h,S1_n,S1_gl,S1_md,R_S1,n1,n2,hbb,S2_n,S2_gl,S2_md,S2_rd,b_S2,hAl2,f1,f2,f3,hdr,htk,hd2,hd3,S3_n,S3_gl,S3_md,S3_rd,b_S3,hfp,b2_S3,n7,n8,n9,S4_n,S4_gl,S4_md,S4_rd,b_S4,b2_S4,x1,x2,x3,hA2s,hdr2,htk2,hd5,S5_n,S5_gl,S5_md,S5_rd,b_S5,b2_S5,S6_n,S6_gl,S6_md,S6_rd,b_S6,b2_S6,S7_n,S7_gl,S7_md,S7_rd,b_S7,b2_S7,S8_n,S8_gl,S8_md] at S8_nx
        have S8_rd:=hG8.rd
        have b_S8:=hG8.old b (by first | omega | (simp;omega)) (by omega)
        try simp[b_S7] at b_S8
        have b2_S8:=hG8.old b2 (by first | omega | (simp;omega)) (by omega)
        try simp[b2_S7] at b2_S8
        have S8_o:∀ y,y<N→y≠R→S8.B y=Sr.B y:=fun y k1 k2=>by
          have a1:=hG8.old y (by first | omega | (simp;omega)) k2
          try simp at a1
          exact a1.trans (S7_o y k1 k2)
        have S8_t:∀ y,y<N→S8.T y=Sr.T y:=fun y k1=>by
          have a1:=hG8.T y (by first | omega | (simp;omega))
          try simp at a1
          exact a1.trans (S7_t y k1)
        obtain⟨hX8,hY8⟩:=hv8
        obtain⟨u1,u2,u3⟩:=hX8.one
        obtain⟨u4,u5,u6⟩:=hY8.one
        have hxD:=hX8.toD
        have hyD:=hY8.toD
        have hab1:appBound 0 1 152:=by unfold appBound;omega
        simp[hA2s,htk2,S8_n,S8_gl,S8_md,b2_S8,hxD,hyD,hab1]
        rename_i kv mv sv lv nv Xv Yv
        have ha00:g2.args=[]:=List.eq_nil_of_length_eq_zero ha0
        refine⟨by omega,?_⟩
        have nRb2:¬ R=b2:=by have:=hvf2.2.1;omega
        refine⟨LA++⟨d.name,d.kind,LA2++⟨g2.name,[⟨nm, .mk s6 l6 m6,decide (pickK c q6 2=0), .mk kv mv sv lv nv⟩],g2.ty⟩::LZ2,d.words⟩::LZ,LstF.g (fin3 _ _ (.tp (S4.nx+20) 0 [dS nm,dS s6, .ps (typsCells l6) l6.length,dB m6,dB (decide (pickK c q6 2=0)),dI kv,dI mv,dS sv, .ps (valsCells lv) lv.length, .ps (nv.map dS) nv.length] 1) _ (by omega) (by simp[n7,b_S8]) ?_ (fun y k1 k2 k3=>?_) (fun B' hB' hv9=>?_)),k_mid hK0 (kfin _ (by simp) ?_),by simp;omega,q8,gotT S8 _ q8 S8_o S8_t rfl rfl rfl (by simp;omega) ?_ ?_ ?_,by omega⟩
        · simp
          exact drop_add hA2s 2 _
        · simp[k3]
          exact (S8_o y k1 k2).trans (by rw[hSr])
        · simp[argsCells,Arg.cells,Typ.cells,Val.cells]
        · intro x hx
          rw[List.mem_singleton] at hx
          subst hx
          exact⟨by show nm.size≤_;omega,htl,hvs8⟩
        · simp[nRb2]
          exact S8_rd
        · intro y k1 k2
          have z3:¬ y=b2:=by have:=hvf2.2.1;omega
          simp[z3]
        · intro y k1
          show upd _ _ _ y=_
          exact upd_ne _ _ (by omega)
  · simp[hAl2,S3_n,b_S3]
    rcases ld_z hf with ⟨rfl,hf0⟩ | ⟨b2,fc,rfl,hfc,hf0⟩
    · simp[S3_n,S3_gl]
      refine⟨schemaL,LstF.g ((lst0 S3 S3_o).keep (fun _ _ _=>rfl) (Nat.le_refl _) (by omega)),schema_k,by decide,p+2,gotE S3 _ (p+2) S3_o S3_t rfl rfl rfl (by simp;omega) S3_rd (fun _ _ _=>rfl) rfl,by omega⟩
    · have hfp:0<d.flds.length:=by omega
      have hvf2:=hvb (b2,svs fc) (hvf _ (by simp[Ld.vars]))
      have b2_S3:=S3_o b2 hvf2.2.2.1 (by have:=hvf2.2.1;omega)
      rw[← hSr,hvf2.2.2.2] at b2_S3
      have n7:¬ b=b2:=fun e=>hvf2.1 e.symm
      have n8:¬ b2=b:=fun e=>hvf2.1 e
      obtain⟨A2,a2,T2,Z2,LA2,g2,LZ2,rfl,hL2,hA2k,hA2l,hA2,hZ2,ha2,hT2⟩:=flds_split (k:=0) hfc hfp
      obtain⟨ta,tb,tc,rfl⟩:=three_of (by rw[← shs_len,hT2];simp:T2.length=3)
      have hA20:A2=[]:=List.eq_nil_of_length_eq_zero (by omega)
      subst hA20
      obtain⟨x1,x2,x3⟩:=z_one ha2
      have hl2:Z2.length+5=d.flds.length*5:=by
        have:=congrArg List.length hfc
        simp only[shs_len,rowsZ_len (fun x=>by simp:∀ x:Fld,(Fld.sz x).length=5)] at this
        simp at this
        omega
      simp[hAl2,S3_n,S3_md,b_S3,hfp,b2_S3]
      refine⟨DrawT.mk (by kernel_rfl),?_⟩
      have e1:∀ x y z v w:SV,List.take (d.flds.length*5) (x::y::z::v::w::svs Z2)=x::y::z::v::w::svs Z2:=fun x y z v w=>List.take_of_length_le (by simp;omega)
      have e2:d.flds.length*5≤Z2.length+1+1+1+1+1:=by omega
      have hm8:d.flds.length≤1048576:=hKd.1.2.1.1
      have e3:appBound 0 d.flds.length 88:=by unfold appBound;omega
      have e4:appBound d.flds.length 1 88:=by unfold appBound;omega
      have e5:Z2.length+1+1+1+1+1=d.flds.length*5:=by omega
      rw[if_pos e2,e1]
      have y1:¬ b=S3.nx+2+2+2+2+2+6+6:=by omega
      have y2:¬ b2=S3.nx+2+2+2+2+2+6+6:=by omega
      have y3:¬ R=S3.nx+2+2+2+2+2+6+6:=by omega
      have y4:¬ b=S3.nx+2+2+2+2+2+6+14:=by omega
      have y5:¬ b2=S3.nx+2+2+2+2+2+6+14:=by omega
      have y6:¬ R=S3.nx+2+2+2+2+2+6+14:=by omega
      have e6:5≤d.flds.length*5:=by omega
      have e7:k*4+2+1≤k*4+(Z.length+1+1+1+1):=by omega
      simp[hAl2,htk,hd3,S3_n,S3_md,b_S3,hfp,b2_S3,y1,y2,y4,appV,onlyIf,e3,e4,e5,e1,e6]
      rw[if_pos e7]
      obtain⟨i6,hi6⟩:∃ i,S3.nx+2+2+2+2+2+6+6=i:=⟨_,rfl⟩
      obtain⟨id,hid⟩:∃ i,S3.nx+2+2+2+2+2+6+14=i:=⟨_,rfl⟩
      rw[hi6,hid]
      have z7:¬ b=i6:=by omega
      have z8:¬ b=id:=by omega
      have z9:¬ R=i6:=by omega
      have z10:¬ R=id:=by omega
      simp[S3_n,S3_gl]
      have hLA2:LA2=[]:=List.eq_nil_of_length_eq_zero hA2k
      subst hLA2
      have z1:¬ R=id:=by omega
      have z2:¬ R=i6:=by omega
      have z5:¬ id=b:=by omega
      have z6:¬ b=id:=by omega
      have hfl:d.flds=g2::LZ2:=hL2
      refine⟨LA++⟨d.name,d.kind,d.flds++[g2],d.words⟩::LZ,LstF.g ?_,k_mid hK0 ?_,by simp;omega,p+2,gotE S3 _ (p+2) S3_o S3_t rfl rfl rfl (by simp;omega) ?_ ?_ rfl,by omega⟩
      · refine fin2 _ _ [.d (dS d.name), .d (dI d.kind), .sk id (d.flds.length+1) 5,w0.sv] ⟨d.name,d.kind,d.flds++[g2],d.words⟩ (by first | omega | (simp;omega)) (by simp) (fun y k1 k2 k3=>?_) (fun B' hB'=>?_)
        · have z3:¬ y=id:=by omega
          have z4:¬ y=i6:=by omega
          simp[z3,z4,k3]
          exact (S3_o y k1 k2).trans (by rw[hSr])
        · have hq:∀ x,S0.nx≤x→x<N→x≠b→B' x=S1.B x:=fun x k1 k2 k3=>by
            have z3:¬ x=id:=by omega
            have z4:¬ x=i6:=by omega
            have h9:=hB' x k1 (by first | omega | (simp;omega)) k3
            simp[z3,z4,k3] at h9
            exact h9.trans ((S3_o x k2 (by omega)).trans (by rw[hSr]))
          have hid9:=hB' id (by omega) (by first | omega | (simp;omega)) z5
          simp[z5] at hid9
          have hv9:∀ p∈varsL ([]++([Ld.d (.string g2.name),a2]++([ta,tb,tc]++Z2))),B' p.1=some p.2:=fun p hp=>by
            obtain⟨a1,a2,a3,a4⟩:=hvb p (hvf p (by simp only[Ld.vars];exact List.mem_cons_of_mem _ hp))
            rw[hq _ a2 a3 a1,a4]
          have hdp:depL (shs ([]++([Ld.d (.string g2.name),a2]++([ta,tb,tc]++Z2))))<11:=by
            have:=hdep
            simp only[Ld.sh,Sk.dep] at this
            omega
          have r1:=(frz_lds (B:=B') ([]++([Ld.d (.string g2.name),a2]++([ta,tb,tc]++Z2))) 11 hv9 hdp).1
          have r2:=(frz_lds (B:=B') ([Ld.d (.string g2.name),a2]++[ta,tb,tc]) 11 (fun p hp=>hv9 p (by
            simp[varsL,Ld.vars] at hp ⊢
            rcases hp with h | h | h | h<;>simp[h])) (by
            simp only[List.nil_append,shs_app,depL_app,shs,depL] at hdp ⊢
            omega)).1
          have e9:mapO (frz B' 11) (SV.d (D.v (Value.string g2.name))::a2.sv::ta.sv::tb.sv::tc.sv::(svs Z2++[SV.d (D.v (Value.string g2.name)),a2.sv,ta.sv,tb.sv,tc.sv]))=some (fldsCells (d.flds++[g2])):=by
            have:=mapO_app r1 r2
            rw[hfc] at this
            have e5:shs ([Ld.d (.string g2.name),a2]++[ta,tb,tc])=Fld.sz g2:=by
              simp[shs,Ld.sh,Fld.sz,ha2, ← hT2]
            rw[e5,fld_szdata,rowsZ_data fld_szdata] at this
            simpa[fldsCells] using this
          refine mapO4 rfl rfl ?_ (fzw B' fun p hp=>?_)
          · show (match B' id with | some cs=>(mapO (frz B' 11) cs).map fun ds=>D.ps ds (d.flds.length+1) | none=>none)=_
            rw[hid9]
            show Option.map (fun ds=>D.ps ds (d.flds.length+1)) (mapO (frz B' 11) _)=_
            rw[e9]
            simp
          · obtain⟨a1,a2,a3,a4⟩:=hvb p (hvw p hp)
            rw[hq _ a2 a3 a1,a4]
      · refine⟨⟨hKd.1.1,⟨by simp;omega,fun x hx=>?_⟩,hKd.1.2.2⟩,hKd.2⟩
        rcases List.mem_append.1 hx with hx | hx
        · exact hKd.1.2.1.2 x hx
        · rw[List.mem_singleton] at hx
          subst hx
          exact hKd.1.2.1.2 _ (by rw[hfl];simp)
      · simp[z1,z2,n1]
        exact S3_rd
      · intro y k1 k2
        have z3:¬ y=id:=by omega
        have z4:¬ y=b:=by omega
        have z5:¬ y=i6:=by omega
        simp[z3,z4,z5]
  · simp[S3_n,b_S3]
    have w1:=wrap64 (n:=(k:Int)+1) (by omega) (by omega)
    rw[w1]
    have w2:((k:Int)+1).toNat=k+1:=by omega
    rw[w2]
    refine⟨DrawT.mk (by kernel_rfl),by omega,by omega,?_⟩
    by_cases hk6:(k:Int)+1<7
    · rw[if_pos hk6]
      obtain⟨id,hid⟩:∃ id,S3.nx+2+2+2+2+2+2+7=id:=⟨_,rfl⟩
      have e1:List.take ((6 - k)*4) (List.drop ((k+1)*4) (svs A++SV.d (dS d.name)::SV.d (dI d.kind)::f.sv::w0.sv::svs Z))=svs Z:=by
        have:(k+1)*4=k*4+4:=by omega
        rw[this,drop_add hAl2 4]
        exact List.take_of_length_le (by simp;omega)
      have e2:List.take (k*4) (svs A++SV.d (dS d.name)::SV.d (dI d.kind)::f.sv::w0.sv::svs Z)=svs A:=by
        have:=take_add hAl2 0 (SV.d (dS d.name)::SV.d (dI d.kind)::f.sv::w0.sv::svs Z)
        simpa using this
      have e3:(k+1)*4+(6 - k)*4≤k*4+(Z.length+1+1+1+1):=by omega
      have e4:0<6 - k:=by omega
      have e5:appBound k (6 - k) 72:=by unfold appBound;omega
      have e6:Z.length=(6 - k)*4:=by omega
      have e7:k+(6 - k)=6:=by omega
      have e8:k*4≤k*4+(Z.length+1+1+1+1):=by omega
      simp[hAl2,b_S3]
      rw[hid,if_pos e3,e1]
      simp[S3_n,S3_gl,appV,onlyIf,e4,e5,e6,e7,hAl2,e2]
      have z1:¬ R=id:=by omega
      refine⟨LA++LZ,LstF.g (lst_two (by omega) (by omega) (by simp) hA hZ (by omega) (by omega) (fun p hp=>?_) (by simp;omega)),?_,by simp;omega,p+2,gotE S3 _ (p+2) S3_o S3_t rfl rfl rfl (by simp;omega) ?_ ?_ rfl,by omega⟩
      · obtain⟨a1,a2,a3,a4⟩:=hvb p (hvAZ p hp)
        have z3:¬ p.1=id:=by omega
        refine⟨a2,by omega,z3,?_⟩
        simp[z3,a1]
        exact (S3_o _ a3 (by omega)).trans (by rw[← hSr];exact a4)
      · intro x hx
        rcases List.mem_append.1 hx with hx | hx
        · exact hK0 x (List.mem_append_left _ hx)
        · exact hK0 x (List.mem_append_right _ (List.mem_cons_of_mem _ hx))
      · simp[z1,n1]
        exact S3_rd
      · intro y k1 k2
        have z3:¬ y=id:=by omega
        have z4:¬ y=b:=by omega
        simp[z3,z4]
    · have hk60:k=6:=by omega
      rw[if_neg hk6]
      simp[S3_n,S3_gl]
      have hLZ:LZ=[]:=List.eq_nil_of_length_eq_zero (by omega)
      subst hLZ
      refine⟨LA,⟨b,_,d.cells,by rw[hAk],by omega,by omega,b_S3,fun B' hB'=>?_⟩,fun x hx=>hK0 x (List.mem_append_left _ hx),by omega,p+2,gotE S3 _ (p+2) S3_o S3_t rfl rfl rfl (by simp;omega) S3_rd (fun _ _ _=>rfl) rfl,by omega⟩
      obtain⟨b9,cs9,g1,g2,g3,g4,g5⟩:=(lst0 S3 S3_o).of
      cases g1
      rw[b_S3] at g4
      cases g4
      have h9:=g5 B' (fun x k1 k2 k3=>hB' x k1 (by first | omega | (simp;omega)) k3)
      rw[h9,hL]
      simp[defsCells]
  · simp[S3_n,S3_md]
    refine CallT.x (x_of _ R c (p+2) _ [⟨#[78,101,119]⟩,⟨#[80,101,116]⟩] (.inl rfl) (by simp) (by simp) (by first | omega | (simp;omega)) (by simp[S3_rd]) hc (by omega)) rfl (fun r4 S4 h4=>?_)
    obtain⟨q4,hG4⟩:=h4
    subst q4
    have S4_n:=hG4.n
    try simp[S3_n] at S4_n
    have S4_gl:=hG4.gl
    try simp[S3_gl] at S4_gl
    have S4_md:=hG4.md
    try simp[S3_md] at S4_md
    have S4_nx:=hG4.nx
    try simp at S4_nx
    have S4_rd:=hG4.rd
    have b_S4:=hG4.old b (by first | omega | (simp;omega)) (by omega)
    try simp[b_S3] at b_S4
    have S4_o:∀ y,y<N→y≠R→S4.B y=Sr.B y:=fun y k1 k2=>by
      have a1:=hG4.old y (by first | omega | (simp;omega)) k2
      try simp at a1
      exact a1.trans (S3_o y k1 k2)
    have S4_t:∀ y,y<N→S4.T y=Sr.T y:=fun y k1=>by
      have a1:=hG4.T y (by first | omega | (simp;omega))
      try simp at a1
      exact a1.trans (S3_t y k1)
    have hnm:=ofK_mem c (p+2) (l:=[⟨#[78,101,119]⟩,⟨#[80,101,116]⟩]) (by simp)
    generalize ofK c (p+2) _=nm at hnm
    have hnm2:nm.size≤40∧nm≠freshS∧nm≠nobodyS:=by
      simp only[List.mem_cons,List.not_mem_nil,or_false] at hnm
      rcases hnm with rfl | rfl<;>decide
    simp[S4_n,S4_md]
    refine CallT.x (x_of _ R c (p+3) _ [⟨#[80,101,114,115,111,110]⟩,⟨#[75,105,110,100]⟩,⟨#[78,111,110,101]⟩] (.inl rfl) (by simp) (by simp) (by first | omega | (simp;omega)) (by simp[S4_rd]) hc (by omega)) rfl (fun r5 S5 h5=>?_)
    obtain⟨q5,hG5⟩:=h5
    subst q5
    have S5_n:=hG5.n
    try simp[S4_n] at S5_n
    have S5_gl:=hG5.gl
    try simp[S4_gl] at S5_gl
    have S5_md:=hG5.md
    try simp[S4_md] at S5_md
    have S5_nx:=hG5.nx
    try simp[h,S1_n,S1_gl,S1_md,R_S1,n1,n2,hbb,S2_n,S2_gl,S2_md,S2_rd,b_S2,hAl2,f1,f2,f3,hdr,htk,hd2,hd3,S3_n,S3_gl,S3_md,S3_rd,b_S3,S4_n,S4_gl,S4_md,S4_rd,b_S4,S5_n,S5_gl,S5_md] at S5_nx
    have S5_rd:=hG5.rd
    have b_S5:=hG5.old b (by first | omega | (simp;omega)) (by omega)
    try simp[b_S4] at b_S5
    have S5_o:∀ y,y<N→y≠R→S5.B y=Sr.B y:=fun y k1 k2=>by
      have a1:=hG5.old y (by first | omega | (simp;omega)) k2
      try simp at a1
      exact a1.trans (S4_o y k1 k2)
    have S5_t:∀ y,y<N→S5.T y=Sr.T y:=fun y k1=>by
      have a1:=hG5.T y (by first | omega | (simp;omega))
      try simp at a1
      exact a1.trans (S4_t y k1)
    have hwd:=ofK_mem c (p+3) (l:=[⟨#[80,101,114,115,111,110]⟩,⟨#[75,105,110,100]⟩,⟨#[78,111,110,101]⟩]) (by simp)
    generalize ofK c (p+3) _=wd5 at hwd
    have hwd2:wd5.size≤40:=by
      simp only[List.mem_cons,List.not_mem_nil,or_false] at hwd
      rcases hwd with rfl | rfl | rfl<;>decide
    simp[hAl2,S5_n,S5_gl,S5_md,b_S5]
    obtain⟨id,hid⟩:∃ id,S3.nx+2+2+2+2+2+2+2+10=id:=⟨_,rfl⟩
    rw[hid]
    have z1:¬ R=id:=by omega
    have z2:¬ b=id:=by omega
    refine⟨⟨by omega,by unfold appBound;omega⟩,schemaL++[⟨nm,4,[],[wd5]⟩],LstF.g ?_,?_,by simp[hlen],p+4,gotE S5 _ (p+4) S5_o S5_t rfl rfl rfl (by simp;omega) ?_ ?_ rfl,by omega⟩
    · refine LstF.add (S:=S5) (lst0 S5 S5_o) b_S5 ?_ ?_ (by omega) (by first | omega | (simp;omega))
      · simp[h28,Def.cells,fldsCells]
      · intro x k1 k2 k3
        simp[k1,k2]
    · intro x hx
      rcases List.mem_append.1 hx with hx | hx
      · exact schema_k x hx
      · rw[List.mem_singleton] at hx
        subst hx
        exact⟨⟨by show nm.size≤_;omega,by simp,by simp;omega⟩,hnm2.2⟩
    · simp[z1,n1]
      exact S5_rd
    · intro y k1 k2
      have z3:¬ y=id:=by omega
      have z4:¬ y=b:=by omega
      simp[z3,z4]
  · simp[S3_n,S3_md]
    refine CallT.x (x_of _ R c (p+2) _ [⟨#[76,111,111,112]⟩,⟨#[73,110]⟩,⟨#[73,110,116]⟩] (.inl rfl) (by simp) (by simp) (by first | omega | (simp;omega)) (by simp[S3_rd]) hc (by omega)) rfl (fun r4 S4 h4=>?_)
    obtain⟨q4,hG4⟩:=h4
    subst q4
    have S4_n:=hG4.n
    try simp[S3_n] at S4_n
    have S4_gl:=hG4.gl
    try simp[S3_gl] at S4_gl
    have S4_md:=hG4.md
    try simp[S3_md] at S4_md
    have S4_nx:=hG4.nx
    try simp at S4_nx
    have S4_rd:=hG4.rd
    have b_S4:=hG4.old b (by first | omega | (simp;omega)) (by omega)
    try simp[b_S3] at b_S4
    have S4_o:∀ y,y<N→y≠R→S4.B y=Sr.B y:=fun y k1 k2=>by
      have a1:=hG4.old y (by first | omega | (simp;omega)) k2
      try simp at a1
      exact a1.trans (S3_o y k1 k2)
    have S4_t:∀ y,y<N→S4.T y=Sr.T y:=fun y k1=>by
      have a1:=hG4.T y (by first | omega | (simp;omega))
      try simp at a1
      exact a1.trans (S3_t y k1)
    have hnm:=ofK_mem c (p+2) (l:=[⟨#[76,111,111,112]⟩,⟨#[73,110]⟩,⟨#[73,110,116]⟩]) (by simp)
    generalize ofK c (p+2) _=nm at hnm
    have hnm2:nm.size≤40:=by
      simp only[List.mem_cons,List.not_mem_nil,or_false] at hnm
      rcases hnm with rfl | rfl | rfl<;>decide
    simp[S4_n]
    refine CallT.x (x_pick _ R c (p+3) 2 (by first | omega | (simp;omega)) (by simp[S4_rd]) hc (by omega) (by omega) (by omega)) rfl (fun r5 S5 h5=>?_)
    obtain⟨q5,hG5⟩:=h5
    subst q5
    have S5_n:=hG5.n
    try simp[S4_n] at S5_n
    have S5_gl:=hG5.gl
    try simp[S4_gl] at S5_gl
    have S5_md:=hG5.md
    try simp[S4_md] at S5_md
    have S5_nx:=hG5.nx
    try simp[h,S1_n,S1_gl,S1_md,R_S1,n1,n2,hbb,S2_n,S2_gl,S2_md,S2_rd,b_S2,hAl2,f1,f2,f3,hdr,htk,hd2,hd3,S3_n,S3_gl,S3_md,S3_rd,b_S3,S4_n,S4_gl,S4_md,S4_rd,b_S4,S5_n,S5_gl,S5_md] at S5_nx
    have S5_rd:=hG5.rd
    have b_S5:=hG5.old b (by first | omega | (simp;omega)) (by omega)
    try simp[b_S4] at b_S5
    have S5_o:∀ y,y<N→y≠R→S5.B y=Sr.B y:=fun y k1 k2=>by
      have a1:=hG5.old y (by first | omega | (simp;omega)) k2
      try simp at a1
      exact a1.trans (S4_o y k1 k2)
    have S5_t:∀ y,y<N→S5.T y=Sr.T y:=fun y k1=>by
      have a1:=hG5.T y (by first | omega | (simp;omega))
      try simp at a1
      exact a1.trans (S4_t y k1)
    simp[hAl2,S5_n,S5_gl,S5_md,b_S5]
    obtain⟨id,hid⟩:∃ id,S3.nx+2+2+2+2+2+2+2+2+12=id:=⟨_,rfl⟩
    rw[hid]
    have z1:¬ R=id:=by omega
    have z2:¬ b=id:=by omega
    refine⟨⟨by omega,by unfold appBound;omega⟩,schemaL++[⟨⟨#[76,111,111,112]⟩,3,[⟨⟨#[120]⟩,[], .mk nm [] (decide (pickK c (p+3) 2=0))⟩],[]⟩],LstF.g ?_,?_,by simp[hlen],p+4,gotE S5 _ (p+4) S5_o S5_t rfl rfl rfl (by simp;omega) ?_ ?_ rfl,by omega⟩
    · refine LstF.add (S:=S5) (lst0 S5 S5_o) b_S5 ?_ ?_ (by omega) (by first | omega | (simp;omega))
      · simp[h28,Def.cells,fldsCells,Fld.cells,Typ.cells,typsCells,argsCells]
      · intro x k1 k2 k3
        simp[k1,k2]
    · intro x hx
      rcases List.mem_append.1 hx with hx | hx
      · exact schema_k x hx
      · rw[List.mem_singleton] at hx
        subst hx
        exact⟨⟨by show (4:Nat)≤_;omega,⟨by simp,fun x hx=>by rw[List.mem_singleton] at hx;subst hx;exact⟨by show (1:Nat)≤_;omega,⟨by simp,by simp⟩,tle0 (by omega)⟩⟩,by simp⟩,by show (⟨#[76,111,111,112]⟩:ByteArray)≠_∧(⟨#[76,111,111,112]⟩:ByteArray)≠_;decide⟩
    · simp[z1,n1]
      exact S5_rd
    · intro y k1 k2
      have z3:¬ y=id:=by omega
      have z4:¬ y=b:=by omega
      simp[z3,z4]
  · simp[S3_n]
    refine LoopT.round (fun E S=>∃ (E0:List Def) (n:Nat) (bb:Nat) (q:Nat),(S.B R=some (rdP c q))∧(∀ d∈E0,DefK d)∧(n=7+E0.length)∧(q=p+2+E0.length)∧(n≤11)∧(LstF S S0.nx S.nx (.sk bb n 4) (schemaL++E0))∧(∀ y,y<S0.nx→y≠R→S.B y=Sr.B y)∧(∀ y,y<S0.nx→S.T y=Sr.T y)∧(N≤S.nx)∧E 0=some (.op R 0)∧E 3=some (.sk bb n 4)) (fun E S=>match E 3 with | some (.sk _ n _)=>12 - n | _=>0) ⟨[],7,b,p+2,by simp[S3_rd];refine⟨?_,fun y k1 k2=>S3_o y (by omega) k2,fun y k1=>S3_t y (by omega),by omega⟩;first | rw[List.append_nil] | skip;exact (lst0 S3 S3_o).keep (fun _ _ _=>rfl) (Nat.le_refl _) (by first | omega | (simp;omega))⟩ ?_
    rintro E S hk ⟨E0,n,bb,q,hrd,hE,hn,hq,hn11,hLst,hrO2,hrT2,hnx,h0,h3⟩
    have hn:S.n=181:=by first | (simpa using hk.n)|(have hh:=hk.n;simp[S3_n] at hh;exact hh)
    have hg:S.gl=S0.gl:=by first | (simpa using hk.gl)|(have hh:=hk.gl;simp[S3_gl] at hh;exact hh)
    have hmd:S.md=[1000121]:=by first | (simpa using hk.md)|(have hh:=hk.md;simp[S3_md] at hh;exact hh)
    simp[h0,h3,hn]
    refine CallT.x (x_pick _ R c q 2 (by first | omega | (simp;omega)) (by simp[hrd]) hc (by omega) (by omega) (by omega)) rfl (fun r4 S4 h4=>?_)
    obtain⟨q4,hG4⟩:=h4
    subst q4
    have S4_n:=hG4.n
    try simp[hn] at S4_n
    have S4_gl:=hG4.gl
    try simp[hg] at S4_gl
    have S4_md:=hG4.md
    try simp[hmd] at S4_md
    have S4_nx:=hG4.nx
    try simp at S4_nx
    have S4_rd:=hG4.rd
    have hj:=pickK_lt c q 2 (by omega)
    generalize pickK c q 2=j at hj
    have w1:=wrap64 (n:=(10:Int)+j) (by omega) (by omega)
    obtain⟨b',cs,g1,g2,g3,g4,g5⟩:=hLst.of
    have hlE:(schemaL++E0).length=n:=by rw[List.length_append,hlen];omega
    rw[hlE] at g1
    cases g1
    have hcl:cs.length=n*4:=by
      have:=(mapO_get (g5 S.B fun _ _ _ _=>rfl)).1
      rw[defs_len,hlE] at this
      omega
    have nb:¬ bb=R:=by omega
    have nb2:¬ R=bb:=by omega
    have bb_S4:=hG4.old bb (by first | omega | (simp;omega)) nb
    simp at bb_S4
    rw[g4] at bb_S4
    have htkc:List.take (n*4) cs=cs:=List.take_of_length_le (by omega)
    simp[S4_n,S4_gl,w1]
    refine BrT.dec (fun c3=>?_) (fun c3=>?_)
    · have hn10:n≤10:=by omega
      obtain⟨sN,hsN,hdec⟩:=p_decs n (by omega) hn10
      have hab:appBound n 1 72:=by unfold appBound;omega
      simp[h3,S4_n,c3]
      repeat refine⟨DrawT.mk (by kernel_rfl),?_⟩
      refine CallT.p0 ((hdec _)) (by first | rfl | (simp;done)|(simp[h,S1_n,S1_gl,S1_md,R_S1,n1,n2,hbb,S2_n,S2_gl,S2_md,S2_rd,b_S2,hAl2,f1,f2,f3,hdr,htk,hd2,hd3,S3_n,S3_gl,S3_md,S3_rd,b_S3,h0,h3,hn,hg,hmd,hrd,S4_n,S4_gl,S4_md,S4_rd,bb_S4,hcl,htkc,nb,nb2,c3];done)) (by first | rfl | (simp;done)|(simp;rfl)|(simp[h,S1_n,S1_gl,S1_md,R_S1,n1,n2,hbb,S2_n,S2_gl,S2_md,S2_rd,b_S2,hAl2,f1,f2,f3,hdr,htk,hd2,hd3,S3_n,S3_gl,S3_md,S3_rd,b_S3,h0,h3,hn,hg,hmd,hrd,S4_n,S4_gl,S4_md,S4_rd,bb_S4,hcl,htkc,nb,nb2,c3];done)) ?_
      simp[S4_n,S4_gl]
      have hsz1:(⟨#[69]⟩:ByteArray).size=1:=rfl
      rw[if_pos (by omega)]
      have nR8:¬ R=S4.nx+8:=by omega
      simp[h0,S4_n,S4_md,S4_rd,bb_S4,hcl,htkc,nb2,hab,nR8]
      have hS4:∀ x,S0.nx≤x→x<S.nx→S4.B x=S.B x:=fun x k1 k2=>by
        have a4:=hG4.old x (by first | omega | (simp;omega)) (by omega)
        simpa using a4
      refine⟨⟨E0++[⟨⟨#[69]⟩++sN,2,[],[⟨#[65]⟩]⟩],n+1,S4.nx+8,q+1,rfl,?_,by simp;omega,by simp;omega,by omega,?_,fun y k1 k2=>?_,fun y k1=>?_,by omega,⟨rfl,rfl⟩⟩,by omega⟩
      · intro x hx
        rcases List.mem_append.1 hx with hx | hx
        · exact hE x hx
        · rw[List.mem_singleton] at hx
          subst hx
          have hz:((⟨#[69]⟩:ByteArray)++sN).size≤3:=by rw[ByteArray.size_append];omega
          refine⟨⟨Nat.le_trans hz (by omega),by simp,by simp;decide⟩,fun e=>?_,fun e=>?_⟩
          · have e:(⟨#[69]⟩:ByteArray)++sN=freshS:=e
            rw[e] at hz;exact absurd hz (by decide)
          · have e:(⟨#[69]⟩:ByteArray)++sN=nobodyS:=e
            rw[e] at hz;exact absurd hz (by decide)
      · rw[← List.append_assoc]
        refine LstF.add (S:=S4) (hLst.keep hS4 (Nat.le_refl _) (Nat.le_refl _)) bb_S4 ?_ ?_ (by omega) (by omega)
        · simp[Def.cells,fldsCells]
        · intro x k1 k2 k3
          simp[k1,k2]
      · have z3:¬ y=S4.nx+8:=by omega
        have z4:¬ y=bb:=by omega
        rw[if_neg z3,if_neg z4]
        have a4:=hG4.old y (by simp;omega) k2
        simp at a4
        exact a4.trans (hrO2 y k1 k2)
      · have a4:=hG4.T y (by simp;omega)
        simp at a4
        exact a4.trans (hrT2 y k1)
    · simp[h3,S4_n,S4_gl,c3]
      refine⟨schemaL++E0,LstF.g (hLst.keep (fun x k1 k2=>?_) (Nat.le_refl _) (by omega)),?_,by simp[hlen];omega,q+1,⟨rfl,rfl,rfl,by simp;omega,S4_rd,fun y k1 k2=>?_,fun y k1=>?_, .nil⟩,by omega⟩
      · have a4:=hG4.old x (by first | omega | (simp;omega)) (by omega)
        simpa using a4
      · intro x hx
        rcases List.mem_append.1 hx with hx | hx
        · exact schema_k x hx
        · exact hE x hx
      · have a4:=hG4.old y (by simp;omega) k2
        simp at a4 ⊢
        exact a4.trans ((hrO2 y k1 k2).trans ((by rw[hSr]:Sr.B y=S1.B y).trans (S1_o y k1)))
      · have a4:=hG4.T y (by simp;omega)
        simp at a4 ⊢
        exact a4.trans ((hrT2 y k1).trans ((by rw[hSr]:Sr.T y=S1.T y).trans (S1_t y k1)))
  · have m0:¬ m=0:=by omega
    have m1:¬ (m:Int)=1:=by omega
    have m2:¬ (m:Int)=2:=by omega
    have m3:¬ (m:Int)=3:=by omega
    have m4:¬ (m:Int)=4:=by omega
    have m5:¬ (m:Int)=5:=by omega
    have m6:¬ (m:Int)=6:=by omega
    have m7:¬ (m:Int)=7:=by omega
    have m8:¬ (m:Int)=8:=by omega
    simp[S3_n,S3_gl,m0,m1,m2,m3,m4,m5,m6,m7,m8]
    refine⟨schemaL,LstF.g ?_,schema_k,by decide,p+2,⟨rfl,rfl,rfl,by simp;omega,by simp[S3_rd],?_,?_, .nil⟩,by omega⟩
    · rw[hL]
      refine fin _ _ [.d (dS d.name), .d (dI d.kind),f.sv,w0.sv] d (by first | omega | (simp;done)|(simp;omega)) (by simp[b_S3]) (fun p hp=>?_) (fun B' hB'=>?_)
      · obtain⟨a1,a2,a3,a4⟩:=hvb p (hvAZ p hp)
        simp
        exact (S3_o _ a3 (by omega)).trans (by rw[hSr])
      · refine mapO4 rfl rfl (fzf B' fun p hp=>?_) (fzw B' fun p hp=>?_)
        case' refine_1=>obtain⟨a1,a2,a3,a4⟩:=hvb p (hvf p hp)
        case' refine_2=>obtain⟨a1,a2,a3,a4⟩:=hvb p (hvw p hp)
        all_goals
          rw[hB' _ a2 (by first | omega | (simp;done)|(simp;omega)) a1]
          simp
          exact ((S3_o _ a3 (by omega)).trans (by rw[hSr])).trans a4
    · intro y k1 k2
      have a3:=S3_o y (by omega) k2
      simp
      exact a3.trans ((by rw[hSr]:Sr.B y=S1.B y).trans (S1_o y k1))
    · intro y k1
      have a3:=S3_t y (by omega)
      simp
      exact a3.trans ((by rw[hSr]:Sr.T y=S1.T y).trans (S1_t y k1))
structure Drawn (S0 S':St) (r:SV) (L:List Def):Prop where
  n:S'.n=S0.n
  gl:S'.gl=S0.gl
  md:S'.md=S0.md
  nx:S0.nx≤S'.nx
  lst:LstG S' S0.nx S'.nx r L
  k:∀ d∈L,DefK d
  len:L.length≤20
abbrev nullV:Val:=.mk 0 0 ⟨#[]⟩ [] []
theorem x_open (S0:St) (c:List UInt8) (hc:c.length≤140737488351232):∃ r S',LCall Tryz.prog 45 [.d (codeD c)] S0 r S'∧∃ id,r=.op id 0∧S0.nx≤id∧id<S'.nx∧S'.n=S0.n∧S'.gl=S0.gl∧S'.md=S0.md∧S'.nx=S0.nx+20 ∧
    S'.B id=some (rdP (codeOf c) 0)∧(∀ y,y<S0.nx→S'.B y=S0.B y)∧(∀ y,y<S0.nx→S'.T y=S0.T y):=by
  obtain⟨id,i1,i2,hL⟩:=l_open S0 c hc
  refine⟨_,_,hL,id,rfl,i1,by simp;omega,by simp,by simp,by simp,by simp,by simp,fun y hy=>?_,fun y hy=>?_⟩
  · have n1:¬ y=id:=by omega
    simp[n1]
    omega
  · simp
    omega
theorem lst_row {S0 S':St}{x:Ld}{L:List Def} (hG:Got0 S0 S' [x]) (hx:x.sh=skDefs L) (hL:L.length≠0) (hd:depL (rowsZ Def.sz L)<12):LstF S' S0.nx S'.nx x.sv L:=by
  rcases ld_z hx with ⟨_,h0⟩ | ⟨b,cs0,rfl,hcs,_⟩
  · exact absurd h0 hL
  have hN1:=hG.new
  have hbb:=hN1.has (b,svs cs0) (by simp[varsL,Ld.vars])
  have hbr:=hN1.rng (b,svs cs0) (by simp[varsL,Ld.vars])
  have hnd:=hN1.nodup
  simp only[varsL,Ld.vars,List.append_nil,List.map_cons,List.nodup_cons] at hnd
  simp only at hbb hbr
  have:=lst_two (S:=S') (lo:=S0.nx) (hi:=S'.nx) (b:=b) (A:=cs0) (Z:=[]) (LA:=L) (LZ:=[]) (by omega) (by omega) (by simpa using hbb) hcs rfl (by rw[hcs];exact hd) (by decide) (fun p hp=>?_) (n:=L.length) (by simp)
  · simpa using this
  · rw[List.append_nil] at hp
    have h1:=hN1.has p (by simp only[varsL,Ld.vars,List.append_nil];exact List.mem_cons_of_mem _ hp)
    have h2:=hN1.rng p (by simp only[varsL,Ld.vars,List.append_nil];exact List.mem_cons_of_mem _ hp)
    exact⟨by omega,by omega,fun e=>hnd.1 (List.mem_map.2 ⟨p,hp,e⟩),h1⟩
structure GotD (S S':St):Prop where
  n:S'.n=S.n
  gl:S'.gl=S.gl
  md:S'.md=S.md
  nx:S.nx≤S'.nx
  old:∀ x,x<S.nx→S'.B x=S.B x
  T:∀ x,x<S.nx→S'.T x=S.T x
theorem LstG.frz_hi {S:St}{lo:Nat}{r:SV}{L:List Def} (h:LstG S lo S.nx r L):∃ M,Go.Sh.frz (S.hi lo).B 13 r=some (.ps (defsCells L++M) L.length):=by
  obtain⟨b,cs,M,rfl,e2,e3,e4,e5⟩:=h.of
  refine⟨M,?_⟩
  have hb:(S.hi lo).B b=some cs:=(hi_B e2).trans e4
  rw[Go.Sh.frz,hb]
  show Option.map (fun ds=>D.ps ds L.length) (mapO (Go.Sh.frz (S.hi lo).B 12) cs)=_
  rw[e5 (S.hi lo).B fun x k1 _ _=>hi_B k1];rfl
theorem d_schema (S0:St):∃ r S',LCall Tryz.prog 66 [] S0 r S'∧(r=.d (defsD schemaL)∧GotD S0 S'):=by
  obtain⟨r,S',hL,x,rfl,hx,hG⟩:=l_schema S0
  obtain⟨M,hM⟩:=(lst_row hG hx (by decide) (by decide +kernel)).g.frz_hi
  refine⟨_,_,(hL.frozen S0.nx hM).cutR,rfl,hG.n,hG.gl,hG.md,hG.nx,fun y hy=>?_,fun y hy=>hG.T y hy⟩
  have:¬ S0.nx≤y:=by omega
  simp[this,hG.old y hy]
theorem d_any (S0:St) (R:Nat) (c:List UInt8) (p:Nat) (hR:R<S0.nx) (h:S0.B R=some (rdP c p)) (hc:c.length≤2000) (hp:p≤800000) :
    ∃ r S',LCall Tryz.prog 44 [.op R 0] S0 r S'∧∃ (L:List Def) (q:Nat),r=.d (defsD L)∧(∀ d∈L,DefK d)∧L.length≤20∧Got S0 S' R (rdP c q) []∧q≤p+100:=by
  obtain⟨r,S',hL,L,hl,hk,hlen,q,hG,hq⟩:=l_any c hc S0 R p hR h hp
  obtain⟨M,hM⟩:=hl.frz_hi
  refine⟨_,_,(hL.frozen S0.nx hM).cutR,L,q,rfl,hk,hlen,⟨hG.n,hG.gl,hG.md,hG.nx,?_,fun y hy hne=>?_,fun y hy=>hG.T y hy, .nil⟩,hq⟩
  · have:¬ S0.nx≤R:=by omega
    simp[this,hG.rd]
  · have:¬ S0.nx≤y:=by omega
    simp[this,hG.old y hy hne]
end Go.Proofs.YtlmpjblmmpddeaaGreat
