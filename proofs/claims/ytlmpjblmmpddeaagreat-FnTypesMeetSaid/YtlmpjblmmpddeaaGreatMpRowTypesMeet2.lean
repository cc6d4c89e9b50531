/- Ue and what follows it, one behind another. -/
import Derived.Test.YtlmpjblmmpddeaaGreatMg8
import Derived.Test.YtlmpjblmmpddeaaGreatMpRowTypesMeet1
set_option linter.unusedVariables false
set_option linter.unusedSimpArgs false
set_option maxRecDepth 100000
namespace Go.Proofs.YtlmpjblmmpddeaaGreat
open Go.Sh
variable {gl:Nat→Option D}
theorem meet_comm (L:List Def) (a b:ByteArray):meetB L a b=meetB L b a:=by
  unfold meetB meetN
  congr 1
  rw[Bool.eq_iff_iff,List.any_eq_true,List.any_eq_true]
  constructor<;>(rintro ⟨x,h1,h2⟩;exact⟨x,memB_iff.1 h2,memB_iff.2 h1⟩)
theorem union_meet {L:List Def} (hz:checkB L=0) {i:Nat} (hi:i<L.length) (hk:L[i].kind=4) {b:ByteArray} (hb:memB b L[i].words=true):meetB L L[i].name b=true:=by
  obtain⟨_,a2,a3,_,a5,_⟩:=check_zero.1 hz
  have hn:=kind_once ((sch_once L).1 a3) hi
  have hp:=List.all_eq_true.1 a5 _ (List.getElem_mem hi)
  unfold defPlaced wordPlaced at hp
  simp only[Bool.and_eq_true,List.all_eq_true] at hp
  have h1:=hp.2 b (memB_iff.1 hb)
  rw[hk] at h1
  have h3:kindL L b=1:=by simpa using h1
  have h4:objsL L b=[b]:=by unfold objsL;rw[if_pos h3]
  have h5:objsL L L[i].name=L[i].words:=by
    have:kindL L L[i].name=4:=by rw[kindL,hn,hk]
    unfold objsL
    rw[if_neg (by rw[this];decide),if_pos this,hn]
  unfold meetB meetN
  rw[hz,h4,h5]
  simp only[decide_true,Bool.true_and]
  exact List.any_eq_true.2 ⟨b,memB_iff.1 hb,memB_iff.2 (by simp)⟩
set_option maxHeartbeats 4000000 in
theorem p_l4Objects (l:List Def) (s:ByteArray) (hl:l.length≤4611686018427387904):PCall Tryz.prog gl 125 [defsD l,dS s] (namesD (objsL l s)):=by
  have hA:=p_l2At (gl:=gl) l s hl
  cases ha:atD l s with
  | none =>
    have hz0:atZ l s = -1:=by unfold atZ;rw[ha]
    have hz:objsL l s=[]:=by
      unfold objsL
      rw[kindL,defL_none ha]
      rfl
    rw[hz0] at hA
    refine PCall.by_ (md:=[]) Tryz.func125 rfl (by kernel_rfl) (n:=35) Tryz.ntmps125 (by simp) (by decide) rfl ?_
    simp
    repeat refine⟨DrawT.mk (by kernel_rfl),?_⟩
    refine CallT.p0 (hA) (by first | rfl | (simp;done)|(simp;done)) (by first | rfl | (simp;done)|(simp;rfl)|(simp;done)) ?_
    simp
    simp[hz]
  | some j =>
    have hz0:atZ l s=j:=by unfold atZ;rw[ha]
    have hj:=atD_lt ha
    have hneg:¬ ((j:Int)<0):=by omega
    have hz:objsL l s=if l[j].kind=1 then [s] else if l[j].kind=4 then l[j].words else []:=by
      unfold objsL kindL
      rw[defL_some ha]
    have dlen:=defs_len l
    have dfit:j*4+4≤l.length*4:=by omega
    have dat:=defs_at l hj
    rw[hz0] at hA
    generalize l[j]=d at hz dat
    obtain⟨dn,kind,fs,words⟩:=d
    simp only[Def.cells] at dat
    simp only at hz
    refine PCall.by_ (md:=[]) Tryz.func125 rfl (by kernel_rfl) (n:=35) Tryz.ntmps125 (by simp) (by decide) rfl ?_
    have dat_1:=row_get dat 1 (by decide) rfl
    have dat_1'':=(List.getElem?_eq_some_iff.1 dat_1).2
    have dat_1':j*4+1<_:=Nat.lt_of_lt_of_le (by omega) dfit
    have dat_3:=row_get dat 3 (by decide) rfl
    have dat_3'':=(List.getElem?_eq_some_iff.1 dat_3).2
    have dat_3':j*4+3<_:=Nat.lt_of_lt_of_le (by omega) dfit
    simp[dat_1,dat_1',dat_1'',dat_3,dat_3',dat_3'',hneg,hj,dlen,dfit]
    repeat refine⟨DrawT.mk (by kernel_rfl),?_⟩
    refine CallT.p0 (hA) (by first | rfl | (simp;done)|(simp[dat_1,dat_1',dat_1'',dat_3,dat_3',dat_3'',hneg,hj,dlen,dfit];done)) (by first | rfl | (simp;done)|(simp;rfl)|(simp[dat_1,dat_1',dat_1'',dat_3,dat_3',dat_3'',hneg,hj,dlen,dfit];done)) ?_
    simp[dat_1,dat_1',dat_1'',dat_3,dat_3',dat_3'',hneg,hj,dlen,dfit]
    refine BrT.dec (fun k4=>?_) (fun k4=>?_)
    · have k1:¬ kind=1:=by omega
      rw[if_neg k1,if_pos k4] at hz
      simp[dat_1,dat_1',dat_1'',dat_3,dat_3',dat_3'',hneg,hj,dlen,dfit,k4,hz]
    · rw[if_neg k4] at hz
      simp[dat_1,dat_1',dat_1'',dat_3,dat_3',dat_3'',hneg,hj,dlen,dfit,k4]
      refine BrT.dec (fun k1=>?_) (fun k1=>?_)
      · rw[if_pos k1] at hz
        simp[dat_1,dat_1',dat_1'',dat_3,dat_3',dat_3'',hneg,hj,dlen,dfit,k4,k1,hz]
      · rw[if_neg k1] at hz
        simp[dat_1,dat_1',dat_1'',dat_3,dat_3',dat_3'',hneg,hj,dlen,dfit,k4,k1,hz]
set_option maxHeartbeats 4000000 in
theorem p_l4Meet (l:List Def) (hl:l.length≤1000000) (hsm:∀ d∈l,DefSm d) (a b:ByteArray):PCall Tryz.prog gl 69 [defsD l,dS a,dS b] (dB (meetN l a b)):=by
  have hA:=p_l4Objects (gl:=gl) l a (by omega)
  have hB:=p_l4Objects (gl:=gl) l b (by omega)
  have hla:=objs_len hsm a
  have hlb:=objs_len hsm b
  have hm:meetN l a b=(objsL l a).any fun x=>memB x (objsL l b):=rfl
  generalize objsL l a=x at *
  generalize objsL l b=y at *
  refine PCall.by_ (md:=[]) Tryz.func69 rfl (by kernel_rfl) (n:=28) Tryz.ntmps69 (by simp) (by decide) rfl ?_
  simp
  repeat refine⟨DrawT.mk (by kernel_rfl),?_⟩
  refine CallT.p0 (hA) (by first | rfl | (simp;done)|(simp;done)) (by first | rfl | (simp;done)|(simp;rfl)|(simp;done)) ?_
  simp
  repeat refine⟨DrawT.mk (by kernel_rfl),?_⟩
  refine CallT.p0 (hB) (by first | rfl | (simp;done)|(simp;done)) (by first | rfl | (simp;done)|(simp;rfl)|(simp;done)) ?_
  simp
  refine LoopT.round (fun E S=>∃ (i:Nat),(i≤x.length)∧E 7=some (.d (namesD x))∧E 8=some (.d (namesD y))∧E 9=some (.d (dI i))∧(noUp (fun z=>memB z y) x i)) (upTo 9 x.length) ⟨0,by simp;exact noUp_zero _ _⟩ ?_
  rintro E S hk ⟨i,hi,h7,h8,h9,hp⟩
  have hn:S.n=28:=by first | (simpa using hk.n)|(have hh:=hk.n;simp at hh;exact hh)
  have hg:S.gl=gl:=by first | (simpa using hk.gl)|(have hh:=hk.gl;simp at hh;exact hh)
  have hmd:S.md=[]:=by first | (simpa using hk.md)|(have hh:=hk.md;simp at hh;exact hh)
  simp[h7,h8,h9,hn,hg,hmd]
  have w:=wrap64 (n:=(i:Int)+1) (by omega) (by omega)
  refine BrT.dec (fun c=>?_) (fun c=>?_)
  · have hi2:i<x.length:=by omega
    simp[h7,h8,h9,hn,hg,hmd,c,hi2,w]
    repeat refine⟨DrawT.mk (by kernel_rfl),?_⟩
    refine CallT.p0 ((p_l2Has y x[i] (by omega))) (by first | rfl | (simp;done)|(simp[h7,h8,h9,hn,hg,hmd,c,hi2,w];done)) (by first | rfl | (simp;done)|(simp;rfl)|(simp[h7,h8,h9,hn,hg,hmd,c,hi2,w];done)) ?_
    simp[h7,h8,h9,hn,hg,hmd,c,hi2,w]
    refine BrT.mk (fun c2=>?_) (fun c2=>?_)
    · have hq:meetN l a b=true:=hm.trans (any_at hi2 c2)
      simp[h7,h8,h9,hn,hg,hmd,c,hi2,w,c2,hq]
    · simp[h7,h8,h9,hn,hg,hmd,c,hi2,w,c2]
      exact⟨⟨i+1,hi2,by omega,noUp_next hi2 hp c2⟩,upTo_lt h9 (by simp) hi2⟩
  · have hi3:i=x.length:=by omega
    subst hi3
    have hq:meetN l a b=false:=hm.trans (noUp_all hp)
    simp[h7,h8,h9,hn,hg,hmd,c,hq]
set_option maxHeartbeats 4000000 in
theorem p_spMeet (L:List Def) (hl:L.length≤1000000) (hsm:∀ d∈L,DefSm d) (a b:ByteArray):PCall Tryz.prog gl 19 [defsD L,dS a,dS b] (dB (meetB L a b)):=by
  refine PCall.by_ (md:=[]) Tryz.func19 rfl (by kernel_rfl) (n:=16) Tryz.ntmps19 (by simp) (by decide) rfl ?_
  simp
  repeat refine⟨DrawT.mk (by kernel_rfl),?_⟩
  refine CallT.p0 ((p_spCheck L (by omega) hsm)) (by first | rfl | (simp;done)|(simp;done)) (by first | rfl | (simp;done)|(simp;rfl)|(simp;done)) ?_
  simp
  by_cases hz:checkB L=0
  · simp[hz]
    repeat refine⟨DrawT.mk (by kernel_rfl),?_⟩
    refine CallT.p0 ((p_l4Meet L hl hsm a b)) (by first | rfl | (simp;done)|(simp;done)) (by first | rfl | (simp;done)|(simp;rfl)|(simp;done)) ?_
    simp
    simp[meetB,hz]
  · simp[hz]
    simp[meetB,hz]
theorem x_open (S0:St) (c:List UInt8) (hc:c.length≤140737488351232):∃ r S',LCall Tryz.prog 45 [.d (codeD c)] S0 r S'∧∃ id,r=.op id 0∧S0.nx≤id∧id<S'.nx∧S'.n=S0.n∧S'.gl=S0.gl∧S'.md=S0.md∧S'.nx=S0.nx+20 ∧
    S'.B id=some (rdP (codeOf c) 0)∧(∀ y,y<S0.nx→S'.B y=S0.B y)∧(∀ y,y<S0.nx→S'.T y=S0.T y):=by
  obtain⟨id,i1,i2,hL⟩:=l_open S0 c hc
  refine⟨_,_,hL,id,rfl,i1,by simp;omega,by simp,by simp,by simp,by simp,by simp,fun y hy=>?_,fun y hy=>?_⟩
  · have n1:¬ y=id:=by omega
    simp[n1]
    omega
  · simp
    omega
theorem lst_row {S0 S':St}{x:Ld}{L:List Def} (hG:Got0 S0 S' [x]) (hx:x.sh=skDefs L) (hL:L.length≠0) (hd:depL (rowsZ Def.sz L)<12):LstF S' S0.nx S'.nx x.sv L:=by
  rcases ld_z hx with ⟨_,h0⟩ | ⟨b,cs0,rfl,hcs,_⟩
  · exact absurd h0 hL
  have hN1:=hG.new
  have hbb:=hN1.has (b,svs cs0) (by simp[varsL,Ld.vars])
  have hbr:=hN1.rng (b,svs cs0) (by simp[varsL,Ld.vars])
  have hnd:=hN1.nodup
  simp only[varsL,Ld.vars,List.append_nil,List.map_cons,List.nodup_cons] at hnd
  simp only at hbb hbr
  have:=lst_two (S:=S') (lo:=S0.nx) (hi:=S'.nx) (b:=b) (A:=cs0) (Z:=[]) (LA:=L) (LZ:=[]) (by omega) (by omega) (by simpa using hbb) hcs rfl (by rw[hcs];exact hd) (by decide) (fun p hp=>?_) (n:=L.length) (by simp)
  · simpa using this
  · rw[List.append_nil] at hp
    have h1:=hN1.has p (by simp only[varsL,Ld.vars,List.append_nil];exact List.mem_cons_of_mem _ hp)
    have h2:=hN1.rng p (by simp only[varsL,Ld.vars,List.append_nil];exact List.mem_cons_of_mem _ hp)
    exact⟨by omega,by omega,fun e=>hnd.1 (List.mem_map.2 ⟨p,hp,e⟩),h1⟩
structure GotD (S S':St):Prop where
  n:S'.n=S.n
  gl:S'.gl=S.gl
  md:S'.md=S.md
  nx:S.nx≤S'.nx
  old:∀ x,x<S.nx→S'.B x=S.B x
  T:∀ x,x<S.nx→S'.T x=S.T x
theorem LstG.frz_hi {S:St}{lo:Nat}{r:SV}{L:List Def} (h:LstG S lo S.nx r L):∃ M,Go.Sh.frz (S.hi lo).B 13 r=some (.ps (defsCells L++M) L.length):=by
  obtain⟨b,cs,M,rfl,e2,e3,e4,e5⟩:=h.of
  refine⟨M,?_⟩
  have hb:(S.hi lo).B b=some cs:=(hi_B e2).trans e4
  rw[Go.Sh.frz,hb]
  show Option.map (fun ds=>D.ps ds L.length) (mapO (Go.Sh.frz (S.hi lo).B 12) cs)=_
  rw[e5 (S.hi lo).B fun x k1 _ _=>hi_B k1];rfl
theorem d_schema (S0:St):∃ r S',LCall Tryz.prog 66 [] S0 r S'∧(r=.d (defsD schemaL)∧GotD S0 S'):=by
  obtain⟨r,S',hL,x,rfl,hx,hG⟩:=l_schema S0
  obtain⟨M,hM⟩:=(lst_row hG hx (by decide) (by decide +kernel)).g.frz_hi
  refine⟨_,_,(hL.frozen S0.nx hM).cutR,rfl,hG.n,hG.gl,hG.md,hG.nx,fun y hy=>?_,fun y hy=>hG.T y hy⟩
  have:¬ S0.nx≤y:=by omega
  simp[this,hG.old y hy]
theorem d_any (S0:St) (R:Nat) (c:List UInt8) (p:Nat) (hR:R<S0.nx) (h:S0.B R=some (rdP c p)) (hc:c.length≤2000) (hp:p≤800000) :
    ∃ r S',LCall Tryz.prog 44 [.op R 0] S0 r S'∧∃ (L:List Def) (q:Nat),r=.d (defsD L)∧(∀ d∈L,DefK d)∧L.length≤20∧Got S0 S' R (rdP c q) []∧q≤p+100:=by
  obtain⟨r,S',hL,L,hl,hk,hlen,q,hG,hq⟩:=l_any c hc S0 R p hR h hp
  obtain⟨M,hM⟩:=hl.frz_hi
  refine⟨_,_,(hL.frozen S0.nx hM).cutR,L,q,rfl,hk,hlen,⟨hG.n,hG.gl,hG.md,hG.nx,?_,fun y hy hne=>?_,fun y hy=>hG.T y hy, .nil⟩,hq⟩
  · have:¬ S0.nx≤R:=by omega
    simp[this,hG.rd]
  · have:¬ S0.nx≤y:=by omega
    simp[this,hG.old y hy hne]
abbrev drawnN:List ByteArray:=[⟨#[81,117,101,114,121]⟩,⟨#[80,101,114,115,111,110]⟩,⟨#[80,101,116]⟩,⟨#[84,104,105,110,103]⟩,⟨#[75,105,110,100]⟩,⟨#[73,110,116]⟩,⟨#[78,111,110,101]⟩]
set_option maxHeartbeats 16000000 in
theorem l_drawMeet (S0:St) (c:List UInt8) (hc:c.length≤140737488351232):∃ r S',LCall Tryz.prog 18 [.d (codeD c)] S0 r S'∧∃ (a b:ByteArray) (L:List Def),r=.tu [.d (defsD L), .d (dS a), .d (dS b)]∧(∀ d∈L,DefK d)∧L.length≤20∧S'.n=S0.n∧S'.gl=S0.gl∧S'.md=S0.md:=by
  have hco:(codeOf c).length≤2000:=by simp[codeOf];omega
  refine LCall.ex_ (md:=[]) Tryz.func18 rfl (by kernel_rfl) (by kernel_rfl) (n:=24) Tryz.ntmps18 (by simp) (by decide) rfl ?_
  simp
  refine CallT.x (x_open _ c hc) rfl (fun r0 S1 h1=>?_)
  obtain⟨R,rfl,i1,i2,S1_n,S1_gl,S1_md,S1_nx,hR,S1_o,S1_t⟩:=h1
  generalize codeOf c=c at *
  simp at S1_n S1_gl S1_md S1_nx i1
  simp[S1_n,S1_gl,S1_md]
  refine CallT.x (d_schema _) rfl (fun r1 S2 h2=>?_)
  obtain⟨rfl,hG2⟩:=h2
  have S2_n:=hG2.n
  have S2_gl:=hG2.gl
  have S2_md:=hG2.md
  have S2_nx:=hG2.nx
  simp[S1_n,S1_gl,S1_md] at S2_n S2_gl S2_md S2_nx
  have hR2:S2.B R=some (rdP c 0):=by
    have:=hG2.old R (by simp;omega)
    rw[this]
    simpa using hR
  simp[S1_n,S1_gl,S1_md,S2_n,S2_gl,S2_md]
  refine CallT.x (x_pick _ R c 0 8 (by simp;omega) (by simpa using hR2) hco (by omega) (by omega) (by omega)) rfl (fun r3 S3 h3=>?_)
  obtain⟨q3,hG3⟩:=h3
  subst q3
  have S3_n:=hG3.n
  try simp[S1_n,S1_gl,S1_md,S2_n,S2_gl,S2_md] at S3_n
  have S3_gl:=hG3.gl
  try simp[S1_n,S1_gl,S1_md,S2_n,S2_gl,S2_md,S3_n] at S3_gl
  have S3_md:=hG3.md
  try simp[S1_n,S1_gl,S1_md,S2_n,S2_gl,S2_md,S3_n,S3_gl] at S3_md
  have S3_nx:=hG3.nx
  try simp[S1_n,S1_gl,S1_md,S2_n,S2_gl,S2_md,S3_n,S3_gl,S3_md] at S3_nx
  have S3_rd:=hG3.rd
  simp[S1_n,S1_gl,S1_md,S2_n,S2_gl,S2_md,S3_n,S3_gl,S3_md,S3_rd]
  refine BrT.dec (fun c8=>?_) (fun c8=>?_)
  · simp[S1_n,S1_gl,S1_md,S2_n,S2_gl,S2_md,S3_n,S3_gl,S3_md,S3_rd,c8]
    refine CallT.x (d_any _ R c 1 (by simp;omega) (by simpa using S3_rd) hco (by omega)) rfl (fun r4 S4 h4=>?_)
    obtain⟨L,q,rfl,hk4,hlen4,hG4,hq⟩:=h4
    have S4_n:=hG4.n
    try simp[S1_n,S1_gl,S1_md,S2_n,S2_gl,S2_md,S3_n,S3_gl,S3_md,S3_rd,c8] at S4_n
    have S4_gl:=hG4.gl
    try simp[S1_n,S1_gl,S1_md,S2_n,S2_gl,S2_md,S3_n,S3_gl,S3_md,S3_rd,c8,S4_n] at S4_gl
    have S4_md:=hG4.md
    try simp[S1_n,S1_gl,S1_md,S2_n,S2_gl,S2_md,S3_n,S3_gl,S3_md,S3_rd,c8,S4_n,S4_gl] at S4_md
    have S4_nx:=hG4.nx
    try simp[S1_n,S1_gl,S1_md,S2_n,S2_gl,S2_md,S3_n,S3_gl,S3_md,S3_rd,c8,S4_n,S4_gl,S4_md] at S4_nx
    have S4_rd:=hG4.rd
    simp[S1_n,S1_gl,S1_md,S2_n,S2_gl,S2_md,S3_n,S3_gl,S3_md,S3_rd,c8,S4_n,S4_gl,S4_md,S4_rd]
    refine CallT.x (x_of _ R c q _ drawnN (.inl rfl) (by simp) (by simp) (by first | omega | (simp;omega)) (by simp[S1_n,S1_gl,S1_md,S2_n,S2_gl,S2_md,S3_n,S3_gl,S3_md,S3_rd,c8,S4_n,S4_gl,S4_md,S4_rd]) hco (by omega)) rfl (fun r5 S5 h5=>?_)
    obtain⟨q5,hG5⟩:=h5
    subst q5
    have S5_n:=hG5.n
    try simp[S1_n,S1_gl,S1_md,S2_n,S2_gl,S2_md,S3_n,S3_gl,S3_md,S3_rd,c8,S4_n,S4_gl,S4_md,S4_rd] at S5_n
    have S5_gl:=hG5.gl
    try simp[S1_n,S1_gl,S1_md,S2_n,S2_gl,S2_md,S3_n,S3_gl,S3_md,S3_rd,c8,S4_n,S4_gl,S4_md,S4_rd,S5_n] at S5_gl
    have S5_md:=hG5.md
    try simp[S1_n,S1_gl,S1_md,S2_n,S2_gl,S2_md,S3_n,S3_gl,S3_md,S3_rd,c8,S4_n,S4_gl,S4_md,S4_rd,S5_n,S5_gl] at S5_md
    have S5_nx:=hG5.nx
    try simp[S1_n,S1_gl,S1_md,S2_n,S2_gl,S2_md,S3_n,S3_gl,S3_md,S3_rd,c8,S4_n,S4_gl,S4_md,S4_rd,S5_n,S5_gl,S5_md] at S5_nx
    have S5_rd:=hG5.rd
    simp[S1_n,S1_gl,S1_md,S2_n,S2_gl,S2_md,S3_n,S3_gl,S3_md,S3_rd,c8,S4_n,S4_gl,S4_md,S4_rd,S5_n,S5_gl,S5_md,S5_rd]
    refine CallT.x (x_of _ R c (q+1) _ drawnN (.inl rfl) (by simp) (by simp) (by first | omega | (simp;omega)) (by simp[S1_n,S1_gl,S1_md,S2_n,S2_gl,S2_md,S3_n,S3_gl,S3_md,S3_rd,c8,S4_n,S4_gl,S4_md,S4_rd,S5_n,S5_gl,S5_md,S5_rd]) hco (by omega)) rfl (fun r6 S6 h6=>?_)
    obtain⟨q6,hG6⟩:=h6
    subst q6
    have S6_n:=hG6.n
    try simp[S1_n,S1_gl,S1_md,S2_n,S2_gl,S2_md,S3_n,S3_gl,S3_md,S3_rd,c8,S4_n,S4_gl,S4_md,S4_rd,S5_n,S5_gl,S5_md,S5_rd] at S6_n
    have S6_gl:=hG6.gl
    try simp[S1_n,S1_gl,S1_md,S2_n,S2_gl,S2_md,S3_n,S3_gl,S3_md,S3_rd,c8,S4_n,S4_gl,S4_md,S4_rd,S5_n,S5_gl,S5_md,S5_rd,S6_n] at S6_gl
    have S6_md:=hG6.md
    try simp[S1_n,S1_gl,S1_md,S2_n,S2_gl,S2_md,S3_n,S3_gl,S3_md,S3_rd,c8,S4_n,S4_gl,S4_md,S4_rd,S5_n,S5_gl,S5_md,S5_rd,S6_n,S6_gl] at S6_md
    have S6_nx:=hG6.nx
    try simp[S1_n,S1_gl,S1_md,S2_n,S2_gl,S2_md,S3_n,S3_gl,S3_md,S3_rd,c8,S4_n,S4_gl,S4_md,S4_rd,S5_n,S5_gl,S5_md,S5_rd,S6_n,S6_gl,S6_md] at S6_nx
    have S6_rd:=hG6.rd
    simp[S1_n,S1_gl,S1_md,S2_n,S2_gl,S2_md,S3_n,S3_gl,S3_md,S3_rd,c8,S4_n,S4_gl,S4_md,S4_rd,S5_n,S5_gl,S5_md,S5_rd,S6_n,S6_gl,S6_md,S6_rd]
    exact⟨_,_,L,⟨⟨rfl,rfl⟩,rfl,rfl⟩,hk4,hlen4⟩
  · simp[S1_n,S1_gl,S1_md,S2_n,S2_gl,S2_md,S3_n,S3_gl,S3_md,S3_rd,c8]
    refine CallT.x (x_of _ R c 1 _ drawnN (.inl rfl) (by simp) (by simp) (by first | omega | (simp;omega)) (by simp[S1_n,S1_gl,S1_md,S2_n,S2_gl,S2_md,S3_n,S3_gl,S3_md,S3_rd,c8]) hco (by omega)) rfl (fun r5 S5 h5=>?_)
    obtain⟨q5,hG5⟩:=h5
    subst q5
    have S5_n:=hG5.n
    try simp[S1_n,S1_gl,S1_md,S2_n,S2_gl,S2_md,S3_n,S3_gl,S3_md,S3_rd,c8] at S5_n
    have S5_gl:=hG5.gl
    try simp[S1_n,S1_gl,S1_md,S2_n,S2_gl,S2_md,S3_n,S3_gl,S3_md,S3_rd,c8,S5_n] at S5_gl
    have S5_md:=hG5.md
    try simp[S1_n,S1_gl,S1_md,S2_n,S2_gl,S2_md,S3_n,S3_gl,S3_md,S3_rd,c8,S5_n,S5_gl] at S5_md
    have S5_nx:=hG5.nx
    try simp[S1_n,S1_gl,S1_md,S2_n,S2_gl,S2_md,S3_n,S3_gl,S3_md,S3_rd,c8,S5_n,S5_gl,S5_md] at S5_nx
    have S5_rd:=hG5.rd
    simp[S1_n,S1_gl,S1_md,S2_n,S2_gl,S2_md,S3_n,S3_gl,S3_md,S3_rd,c8,S5_n,S5_gl,S5_md,S5_rd]
    refine CallT.x (x_of _ R c 2 _ drawnN (.inl rfl) (by simp) (by simp) (by first | omega | (simp;omega)) (by simp[S1_n,S1_gl,S1_md,S2_n,S2_gl,S2_md,S3_n,S3_gl,S3_md,S3_rd,c8,S5_n,S5_gl,S5_md,S5_rd]) hco (by omega)) rfl (fun r6 S6 h6=>?_)
    obtain⟨q6,hG6⟩:=h6
    subst q6
    have S6_n:=hG6.n
    try simp[S1_n,S1_gl,S1_md,S2_n,S2_gl,S2_md,S3_n,S3_gl,S3_md,S3_rd,c8,S5_n,S5_gl,S5_md,S5_rd] at S6_n
    have S6_gl:=hG6.gl
    try simp[S1_n,S1_gl,S1_md,S2_n,S2_gl,S2_md,S3_n,S3_gl,S3_md,S3_rd,c8,S5_n,S5_gl,S5_md,S5_rd,S6_n] at S6_gl
    have S6_md:=hG6.md
    try simp[S1_n,S1_gl,S1_md,S2_n,S2_gl,S2_md,S3_n,S3_gl,S3_md,S3_rd,c8,S5_n,S5_gl,S5_md,S5_rd,S6_n,S6_gl] at S6_md
    have S6_nx:=hG6.nx
    try simp[S1_n,S1_gl,S1_md,S2_n,S2_gl,S2_md,S3_n,S3_gl,S3_md,S3_rd,c8,S5_n,S5_gl,S5_md,S5_rd,S6_n,S6_gl,S6_md] at S6_nx
    have S6_rd:=hG6.rd
    simp[S1_n,S1_gl,S1_md,S2_n,S2_gl,S2_md,S3_n,S3_gl,S3_md,S3_rd,c8,S5_n,S5_gl,S5_md,S5_rd,S6_n,S6_gl,S6_md,S6_rd]
    exact⟨_,_,schemaL,⟨⟨rfl,rfl⟩,rfl,rfl⟩,schema_k,by decide⟩
set_option maxHeartbeats 2000000 in
theorem p_pgHas (l:List ByteArray) (s:ByteArray) (hl:l.length≤4611686018427387904):PCall Tryz.prog gl 20 [namesD l,dS s] (dB (memB s l)):=by
  refine PCall.by_ (md:=[]) Tryz.func20 rfl (by kernel_rfl) (n:=18) Tryz.ntmps20 (by simp) (by decide) rfl ?_
  simp
  refine LoopT.round (fun E S=>∃ (i:Nat),(i≤l.length)∧E 0=some (.d (namesD l))∧E 1=some (.d (dS s))∧E 5=some (.d (dI i))∧(memB s (l.take i)=false)) (upTo 5 l.length) ⟨0,by simp;rfl⟩ ?_
  rintro E S hk ⟨i,hi,h0,h1,h5,hp⟩
  have hn:S.n=18:=by first | (simpa using hk.n)|(have hh:=hk.n;simp at hh;exact hh)
  have hg:S.gl=gl:=by first | (simpa using hk.gl)|(have hh:=hk.gl;simp at hh;exact hh)
  have hmd:S.md=[]:=by first | (simpa using hk.md)|(have hh:=hk.md;simp at hh;exact hh)
  simp[h0,h1,h5,hn,hg,hmd]
  have w:=wrap64 (n:=(i:Int)+1) (by omega) (by omega)
  refine BrT.dec (fun c=>?_) (fun c=>?_)
  · have hi2:i<l.length:=by omega
    simp[h0,h1,h5,hn,hg,hmd,c,hi2,w]
    refine BrT.dec (fun e=>?_) (fun e=>?_)
    · have hq:=memB_at hi2 e
      simp[h0,h1,h5,hn,hg,hmd,c,hi2,w,e,hq]
    · have hq:=memB_take hi2 hp e
      simp[h0,h1,h5,hn,hg,hmd,c,hi2,w,e]
      exact⟨⟨i+1,hi2,by omega,hq⟩,upTo_lt h5 (by simp) hi2⟩
  · rw[List.take_of_length_le (by omega)] at hp
    simp[h0,h1,h5,hn,hg,hmd,c,hp]
theorem nm_kind {L:List Def}{i:Nat} (hi:i<L.length):(defsCells L)[i*4]?=some (dS L[i].name)∧(defsCells L)[i*4+1]?=some (dI L[i].kind)∧(defsCells L)[i*4+3]?=some (namesD L[i].words):=by
  have hlen4:List.take 4 (List.drop (i*4) (defsCells L))=[dS L[i].name,dI L[i].kind,fldsD L[i].flds,namesD L[i].words]:=defs_at L hi
  exact⟨row_get0 hlen4 (by decide) rfl,row_get hlen4 1 (by decide) rfl,row_get hlen4 3 (by decide) rfl⟩
set_option maxHeartbeats 16000000 in
theorem p_lawFnTypesMeet (c:List UInt8) (hc:c.length≤140737488351232):PCall Tryz.prog gl 4 [codeD c] (dB true):=by
  refine PCall.by_ (md:=[]) Tryz.func4 rfl (by kernel_rfl) (n:=118) Tryz.ntmps4 (by simp) (by decide) rfl ?_
  simp
  refine BrT.dec (fun hbig=>?_) (fun hbig=>?_)
  case refine_1=>simp[hbig]
  simp[hbig]
  refine CallT.x (l_drawMeet _ c hc) rfl (fun r1 S1 h1=>?_)
  obtain⟨a,b,L,rfl,hK,hlen,S1_n,S1_gl,S1_md⟩:=h1
  simp at S1_n S1_gl S1_md
  have hsm:∀ d∈L,DefSm d:=fun d hd=>(hK d hd).1
  have cM:=fun (gl:Nat→Option D) (u v:ByteArray)=>p_imMeet (gl:=gl) L (by omega) hsm u v
  have cS:=fun (gl:Nat→Option D) (u v:ByteArray)=>p_spMeet (gl:=gl) L (by omega) hsm u v
  have cC:=fun (gl:Nat→Option D)=>p_spCheck (gl:=gl) L (by omega) hsm
  have hcm:=meet_comm L b a
  simp[hbig,S1_n,S1_gl,S1_md]
  repeat refine⟨DrawT.mk (by kernel_rfl),?_⟩
  refine CallT.p0 ((cM _ a b)) (by first | rfl | (simp;done)|(simp[hbig,S1_n,S1_gl,S1_md];done)) (by first | rfl | (simp;done)|(simp;rfl)|(simp[hbig,S1_n,S1_gl,S1_md];done)) ?_
  simp[hbig,S1_n,S1_gl,S1_md]
  repeat refine⟨DrawT.mk (by kernel_rfl),?_⟩
  refine CallT.p0 ((cS _ a b)) (by first | rfl | (simp;done)|(simp[hbig,S1_n,S1_gl,S1_md];done)) (by first | rfl | (simp;done)|(simp;rfl)|(simp[hbig,S1_n,S1_gl,S1_md];done)) ?_
  simp[hbig,S1_n,S1_gl,S1_md]
  repeat refine⟨DrawT.mk (by kernel_rfl),?_⟩
  refine CallT.p0 ((cM _ b a)) (by first | rfl | (simp;done)|(simp[hbig,S1_n,S1_gl,S1_md];done)) (by first | rfl | (simp;done)|(simp;rfl)|(simp[hbig,S1_n,S1_gl,S1_md];done)) ?_
  simp[hbig,S1_n,S1_gl,S1_md,  hcm]
  repeat refine⟨DrawT.mk (by kernel_rfl),?_⟩
  refine CallT.p0 ((cC _)) (by first | rfl | (simp;done)|(simp[hbig,S1_n,S1_gl,S1_md];done)) (by first | rfl | (simp;done)|(simp;rfl)|(simp[hbig,S1_n,S1_gl,S1_md];done)) ?_
  simp[hbig,S1_n,S1_gl,S1_md]
  by_cases hz:checkB L=0
  case neg =>
    simp[hbig,S1_n,S1_gl,S1_md,hz]
    repeat refine⟨DrawT.mk (by kernel_rfl),?_⟩
    refine CallT.p0 ((cS _ a b)) (by first | rfl | (simp;done)|(simp[hbig,S1_n,S1_gl,S1_md];done)) (by first | rfl | (simp;done)|(simp;rfl)|(simp[hbig,S1_n,S1_gl,S1_md];done)) ?_
    simp[hbig,S1_n,S1_gl,S1_md]
    repeat refine⟨DrawT.mk (by kernel_rfl),?_⟩
    refine CallT.p0 ((cM _ b a)) (by first | rfl | (simp;done)|(simp[hbig,S1_n,S1_gl,S1_md];done)) (by first | rfl | (simp;done)|(simp;rfl)|(simp[hbig,S1_n,S1_gl,S1_md];done)) ?_
    simp[hbig,S1_n,S1_gl,S1_md,  hcm]
  simp[hbig,S1_n,S1_gl,S1_md,hz]
  refine LoopT.round (fun E S=>∃ (i:Nat),(i≤L.length)∧E 3=some (.d (defsD L))∧E 4=some (.d (dS a))∧E 5=some (.d (dS b))∧E 6=some (.d (dB (meetB L a b)))∧E 7=some (.d (dI i))) (upTo 7 L.length) ⟨0,by simp[hbig,S1_n,S1_gl,S1_md]⟩ ?_
  rintro E S hk ⟨i,hi,h3,h4,h5,h6,h7⟩
  have hn:S.n=118:=by first | (simpa using hk.n)|(have hh:=hk.n;simp[hbig,S1_n,S1_gl,S1_md] at hh;exact hh)
  have hg:S.gl=gl:=by first | (simpa using hk.gl)|(have hh:=hk.gl;simp[hbig,S1_n,S1_gl,S1_md] at hh;exact hh)
  have hmd:S.md=[]:=by first | (simpa using hk.md)|(have hh:=hk.md;simp[hbig,S1_n,S1_gl,S1_md] at hh;exact hh)
  simp[hbig,S1_n,S1_gl,S1_md,h3,h4,h5,h6,h7,hn,hg,hmd]
  have w:=wrap64 (n:=(i:Int)+1) (by omega) (by omega)
  refine BrT.dec (fun c9=>?_) (fun c9=>?_)
  · have hi2:i<L.length:=by omega
    have hi2':(i:Int)<L.length:=by omega
    obtain⟨e0,e1,e3⟩:=nm_kind hi2
    have dlen:=defs_len L
    have dfit:i*4+4≤L.length*4:=by omega
    have f2:=names_meet hz hi2
    have f3:=fun hk=>union_meet hz hi2 hk (b:=b)
    have hwl:=(hsm _ (List.getElem_mem hi2)).2.2.1
    have hkd:=form_kind (List.all_eq_true.1 (check_zero.1 hz).2.1) _ (List.getElem_mem hi2)
    generalize L[i]=d at e0 e1 e3 f2 f3 hkd hwl
    obtain⟨nm,kd,fl,wd⟩:=d
    simp only at e0 e1 e3 f2 f3 hkd hwl
    have e0':=(List.getElem?_eq_some_iff.1 e0).2
    have e1':=(List.getElem?_eq_some_iff.1 e1).2
    have e3':=(List.getElem?_eq_some_iff.1 e3).2
    by_cases ha:nm=a
    · subst ha
      by_cases hab:nm=b
      · subst hab
        rcases hkd with hk | hk | hk | hk
        all_goals
          subst hk
          simp[hbig,S1_n,S1_gl,S1_md,h3,h4,h5,h6,h7,hn,hg,hmd,c9,hi2,hi2',dlen,dfit,e0,e1,e3,e0',e1',e3',w,f2]
      · skip
        rcases hkd with hk | hk | hk | hk
        all_goals subst hk
        case inr.inr.inr =>
          simp[hbig,S1_n,S1_gl,S1_md,h3,h4,h5,h6,h7,hn,hg,hmd,c9,hi2,hi2',dlen,dfit,e0,e1,e3,e0',e1',e3',w,hab]
          repeat refine⟨DrawT.mk (by kernel_rfl),?_⟩
          refine CallT.p0 ((p_pgHas wd b (by omega))) (by first | rfl | (simp;done)|(simp[hbig,S1_n,S1_gl,S1_md,h3,h4,h5,h6,h7,hn,hg,hmd,c9,hi2,hi2',dlen,dfit,e0,e1,e3,e0',e1',e3',w,hab];done)) (by first | rfl | (simp;done)|(simp;rfl)|(simp[hbig,S1_n,S1_gl,S1_md,h3,h4,h5,h6,h7,hn,hg,hmd,c9,hi2,hi2',dlen,dfit,e0,e1,e3,e0',e1',e3',w,hab];done)) ?_
          simp[hbig,S1_n,S1_gl,S1_md,h3,h4,h5,h6,h7,hn,hg,hmd,c9,hi2,hi2',dlen,dfit,e0,e1,e3,e0',e1',e3',w,hab]
          cases hm:memB b wd with
          | true =>
            have f4:=f3 rfl hm
            simp[hbig,S1_n,S1_gl,S1_md,h3,h4,h5,h6,h7,hn,hg,hmd,c9,hi2,hi2',dlen,dfit,e0,e1,e3,e0',e1',e3',w,hab,f4]
            exact⟨⟨i+1,hi2,by omega⟩,upTo_lt h7 (by simp) hi2⟩
          | false =>
            simp[hbig,S1_n,S1_gl,S1_md,h3,h4,h5,h6,h7,hn,hg,hmd,c9,hi2,hi2',dlen,dfit,e0,e1,e3,e0',e1',e3',w,hab]
            exact⟨⟨i+1,hi2,by omega⟩,upTo_lt h7 (by simp) hi2⟩
        all_goals
          simp[hbig,S1_n,S1_gl,S1_md,h3,h4,h5,h6,h7,hn,hg,hmd,c9,hi2,hi2',dlen,dfit,e0,e1,e3,e0',e1',e3',w,hab]
          exact⟨⟨i+1,hi2,by omega⟩,upTo_lt h7 (by simp) hi2⟩
    · skip
      rcases hkd with hk | hk | hk | hk
      all_goals
        subst hk
        simp[hbig,S1_n,S1_gl,S1_md,h3,h4,h5,h6,h7,hn,hg,hmd,c9,hi2,hi2',dlen,dfit,e0,e1,e3,e0',e1',e3',w,ha]
        exact⟨⟨i+1,hi2,by omega⟩,upTo_lt h7 (by simp) hi2⟩
  · simp[hbig,S1_n,S1_gl,S1_md,h3,h4,h5,h6,h7,hn,hg,hmd,c9]
end Go.Proofs.YtlmpjblmmpddeaaGreat
