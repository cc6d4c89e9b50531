/- Wc and what follows it, one behind another. -/
import Derived.Test.YtlmpjblmmpddeaaGreatMg6
import Derived.RangeFuncRecord
import Derived.Test.YtlmpjblmmpddeaaGreatMg5
import Derived.Test.YtlmpjblmmpddeaaGreatMg4
set_option linter.unusedVariables false
set_option linter.unusedSimpArgs false
set_option maxRecDepth 100000
namespace Go.Proofs.YtlmpjblmmpddeaaGreat
open Go.Sh
variable {gl:Nat→Option D}
def argAt (l:List Arg) (s:ByteArray):Option Arg:=l.find? fun a=>decide (a.name=s)
def zeroArg:Arg:=⟨noS, .mk noS [] false,false, .mk 0 0 noS [] []⟩
theorem argAt_mem {l:List Arg}{s:ByteArray}{a:Arg} (h:argAt l s=some a):a∈l:=List.mem_of_find?_eq_some h
theorem fldAt_mem {l:List Fld}{s:ByteArray}{a:Fld} (h:fldAt l s=some a):a∈l:=List.mem_of_find?_eq_some h
set_option maxHeartbeats 2000000 in
theorem p_argOf (l:List Arg) (s:ByteArray) (hl:l.length≤4611686018427387904):PCall Tryz.prog gl 227 [argsD l,dS s] (.tup [((argAt l s).getD zeroArg).d,dB (argAt l s).isSome]):=by
  refine PCall.by_ (md:=[]) Tryz.func227 rfl (by kernel_rfl) (n:=21) Tryz.ntmps227 (by simp) (by decide) rfl ?_
  simp
  refine LoopT.round (fun E S=>∃ (i:Nat),(i≤l.length)∧E 1=some (.d (dS s))∧E 4=some (.op 0 0)∧E 8=some (.d (argsD l))∧E 9=some (.d (dI l.length))∧E 10=some (.d (dI i))∧S.B 0=some ([.d (dS noS), .d (dS noS), .fl [] 0, .d (dB false), .d (dB false), .d (dI 0), .d (dI 0), .d (dS noS), .fl [] 0, .fl [] 0])∧(argAt (l.drop i) s=argAt l s)∧(1≤S.nx)) (upTo 10 l.length) ⟨0,by simp⟩ ?_
  rintro E S hk ⟨i,hi,h1,h4,h8,h9,h10,hB0,hp,hx⟩
  have hn:S.n=21:=by first | (simpa using hk.n)|(have hh:=hk.n;simp at hh;exact hh)
  have hg:S.gl=gl:=by first | (simpa using hk.gl)|(have hh:=hk.gl;simp at hh;exact hh)
  have hmd:S.md=[]:=by first | (simpa using hk.md)|(have hh:=hk.md;simp at hh;exact hh)
  simp[h9,h10,hn,hg]
  have w:=wrap64 (n:=(i:Int)+1) (by omega) (by omega)
  refine BrT.dec (fun c=>?_) (fun c=>?_)
  · have hi2:i<l.length:=by omega
    have hlen:=args_len l
    have hfit:i*10+10≤l.length*10:=by omega
    rw[List.drop_eq_getElem_cons hi2] at hp
    have hat:=args_at l hi2
    generalize l[i]=a at hp hat
    obtain⟨nm,ty,has,els⟩:=a
    cases ty with
    | mk t lt b =>
    cases els with
    | mk vk vn vs vl vns =>
    simp only[Arg.cells,Typ.cells,Val.cells,List.cons_append,List.nil_append] at hat
    simp[h1,h8,h10,hn,hg,c,hlen,hfit,hat]
    refine BrT.dec (fun e=>?_) (fun e=>?_)
    · simp[h4,hB0,hn,e]
      have hf:argAt l s=some ⟨nm, .mk t lt b,has, .mk vk vn vs vl vns⟩:=by rw[← hp];unfold argAt;rw[List.find?_cons_of_pos (by simp[e])]
      rw[hf]
      simp[Arg.cells,Typ.cells,Val.cells,e]
    · have hf:argAt (l.drop (i+1)) s=argAt l s:=by rw[← hp];unfold argAt;rw[List.find?_cons_of_neg (by simp[e])]
      simp[h1,h4,h8,h9,h10,hB0,hn,w,e]
      exact⟨⟨i+1,hi2,by omega,hf⟩,upTo_lt h10 (by simp) hi2⟩
  · rw[List.drop_eq_nil_of_le (by omega)] at hp
    have hf:argAt l s=none:=hp.symm
    simp[h4,hB0,hn,c]
    rw[hf]
    exact⟨rfl,rfl⟩
def TypF (t:Typ):Prop:=typB t 3=true∧TLe 4611686018427387904 t
def mustT:Typ→Bool | .mk _ _ b=>b
def argOldB (f:List Arg) (a:Arg):Bool:=match argAt f a.name with
  | none=>true
  | some n=>!sameT n.ty a.ty || decide (n.has≠a.has)
def argNewB (o:List Arg) (a:Arg):Bool:=(argAt o a.name).isNone&&(mustT a.ty && !a.has)
def argsBrk (o f:List Arg):Bool:=o.any (argOldB f) || f.any (argNewB o)
set_option maxHeartbeats 16000000 in
theorem p_argsBreak (o f:List Arg) (ho:∀ a∈o,TypF a.ty) (hf:∀ a∈f,TypF a.ty) (hol:o.length≤4611686018427387904) (hfl:f.length≤4611686018427387904):PCall Tryz.prog gl 202 [argsD o,argsD f] (dB (argsBrk o f)):=by
  obtain⟨r,hr⟩:∃ r,argsBrk o f=r:=⟨_,rfl⟩
  rw[hr]
  refine PCall.by_ (md:=[]) Tryz.func202 rfl (by kernel_rfl) (n:=71) Tryz.ntmps202 (by simp) (by decide) rfl ?_
  simp
  refine LoopT.round (fun E S=>∃ (i:Nat),(i≤o.length)∧E 0=some (.d (argsD o))∧E 1=some (.d (argsD f))∧E 13=some (.d (argsD o))∧E 14=some (.d (dI o.length))∧E 15=some (.d (dI i))∧(noUp (argOldB f) o i)) (upTo 15 o.length) ⟨0,by simp;exact noUp_zero _ _⟩ ?_
  rintro E S hk ⟨i,hi,h0,h1,h13,h14,h15,hp⟩
  have hn:S.n=71:=by first | (simpa using hk.n)|(have hh:=hk.n;simp at hh;exact hh)
  have hg:S.gl=gl:=by first | (simpa using hk.gl)|(have hh:=hk.gl;simp at hh;exact hh)
  have hmd:S.md=[]:=by first | (simpa using hk.md)|(have hh:=hk.md;simp at hh;exact hh)
  simp[h14,h15,hn,hg]
  have w:=wrap64 (n:=(i:Int)+1) (by omega) (by omega)
  refine BrT.dec (fun c=>?_) (fun c=>?_)
  · have hi2:i<o.length:=by omega
    have hlen:=args_len o
    have hfit:i*10+10≤o.length*10:=by omega
    have hat:=args_at o hi2
    have hT:=ho _ (List.getElem_mem hi2)
    have hbad:argOldB f o[i]=true→r=true:=fun h=>by rw[← hr];unfold argsBrk;rw[any_at hi2 h];rfl
    have hok:argOldB f o[i]=false→noUp (argOldB f) o (i+1):=fun h=>noUp_next hi2 hp h
    generalize o[i]=a at hat hT hbad hok
    obtain⟨nm,ty,has,els⟩:=a
    have hTP:=p_TypePut (gl:=gl) 3 ty hT.1 (by omega) hT.2
    have hA:=p_argOf (gl:=gl) f nm hfl
    unfold argOldB at hbad hok
    simp only at hbad hok hTP
    cases ty with
    | mk t lt b =>
    cases els with
    | mk vk vn vs vl vns =>
    simp only[Arg.cells,Typ.cells,Val.cells,List.cons_append,List.nil_append] at hat
    cases hax:argAt f nm with
    | none =>
      rw[hax] at hbad hA
      have hq:=hbad rfl
      simp[h1,h13,h15,hn,c,hlen,hfit,hat]
      repeat refine⟨DrawT.mk (by kernel_rfl),?_⟩
      refine CallT.p0 (hA) (by first | rfl | (simp;done)|(simp[hg];done)) (by first | rfl | (simp;done)|(simp;rfl)|(simp[h0,h1,h13,h14,h15,hn,hg,hmd,c,hi2,w,hlen,hfit,hat,Typ.cells,zeroArg,Arg.cells,Val.cells];done)) ?_
      simp[hn,Typ.cells,zeroArg,Arg.cells,Val.cells]
      simp[hq]
      exact DrawT.mk (by kernel_rfl)
    | some n =>
      have hTn:=hf _ (argAt_mem hax)
      obtain⟨nn,nt,nh,ne⟩:=n
      rw[hax] at hbad hok hA
      simp only at hbad hok
      have hTN:=p_TypePut (gl:=gl) 3 nt hTn.1 (by omega) hTn.2
      unfold sameT at hbad hok
      cases nt with
      | mk nt nl nb =>
      cases ne with
      | mk ek en es el ens =>
      simp[h1,h13,h15,hn,c,hlen,hfit,hat]
      repeat refine⟨DrawT.mk (by kernel_rfl),?_⟩
      refine CallT.p0 (hA) (by first | rfl | (simp;done)|(simp[hg];done)) (by first | rfl | (simp;done)|(simp;rfl)|(simp[h0,h1,h13,h14,h15,hn,hg,hmd,c,hi2,w,hlen,hfit,hat,Typ.cells,Arg.cells,Val.cells];done)) ?_
      simp[hn,Typ.cells,Arg.cells,Val.cells]
      repeat refine⟨DrawT.mk (by kernel_rfl),?_⟩
      refine CallT.p0 (hTN) (by first | rfl | (simp;done)|(simp[hg];done)) (by first | rfl | (simp;done)|(simp;rfl)|(simp[h0,h1,h13,h14,h15,hn,hg,hmd,c,hi2,w,hlen,hfit,hat,Typ.cells,Arg.cells,Val.cells];done)) ?_
      simp[hn]
      repeat refine⟨DrawT.mk (by kernel_rfl),?_⟩
      refine CallT.p0 (hTP) (by first | rfl | (simp;done)|(simp[hg];done)) (by first | rfl | (simp;done)|(simp;rfl)|(simp[h0,h1,h13,h14,h15,hn,hg,hmd,c,hi2,w,hlen,hfit,hat,Typ.cells,Arg.cells,Val.cells];done)) ?_
      simp[hn,hg]
      by_cases e1:putT (.mk nt nl nb)=putT (.mk t lt b)
      · by_cases e2:nh=has
        · have hq:=hok (by simp[e1,e2])
          simp[h0,h1,h13,h14,h15,hn,hg,w,e1,e2]
          exact⟨⟨i+1,hi2,by omega,hq⟩,upTo_lt h15 (by simp) hi2⟩
        · have hq:=hbad (by simp[e2])
          have e3:(nh == has)=false:=by simpa using e2
          simp[hn,hg,e1,e3,hq]
      · have hq:=hbad (by simp[e1])
        simp[hn,e1,hq]
  · have hi3:i=o.length:=by omega
    subst hi3
    have hno:=noUp_all hp
    simp[h1,hn,c]
    refine LoopT.round (fun E S=>∃ (j:Nat),(j≤f.length)∧E 0=some (.d (argsD o))∧E 45=some (.d (argsD f))∧E 46=some (.d (dI f.length))∧E 47=some (.d (dI j))∧(noUp (argNewB o) f j)) (upTo 47 f.length) ⟨0,by simp[h0];exact noUp_zero _ _⟩ ?_
    rintro E S hk ⟨j,hj,h0,h45,h46,h47,hp2⟩
    have hn:S.n=71:=by first | (simpa using hk.n)|(have hh:=hk.n;simp[hn] at hh;exact hh)
    have hg:S.gl=gl:=by first | (simpa using hk.gl)|(have hh:=hk.gl;simp[hg] at hh;exact hh)
    have hmd:S.md=[]:=by first | (simpa using hk.md)|(have hh:=hk.md;simp[hmd] at hh;exact hh)
    simp[h46,h47,hn,hg]
    have w:=wrap64 (n:=(j:Int)+1) (by omega) (by omega)
    refine BrT.dec (fun c2=>?_) (fun c2=>?_)
    · have hj2:j<f.length:=by omega
      have hlen:=args_len f
      have hfit:j*10+10≤f.length*10:=by omega
      have hat:=args_at f hj2
      have hbad:argNewB o f[j]=true→r=true:=fun h=>by rw[← hr];unfold argsBrk;rw[any_at hj2 h,Bool.or_true]
      have hok:argNewB o f[j]=false→noUp (argNewB o) f (j+1):=fun h=>noUp_next hj2 hp2 h
      generalize f[j]=a at hat hbad hok
      obtain⟨nm,ty,has,els⟩:=a
      have hA:=p_argOf (gl:=gl) o nm hol
      unfold argNewB at hbad hok
      simp only at hbad hok
      cases ty with
      | mk t lt b =>
      cases els with
      | mk vk vn vs vl vns =>
      simp only[Arg.cells,Typ.cells,Val.cells,List.cons_append,List.nil_append] at hat
      simp only[mustT] at hbad hok
      cases hax:argAt o nm with
      | none =>
        rw[hax] at hbad hok hA
        simp[h0,h45,h47,hn,c2,hlen,hfit,hat]
        repeat refine⟨DrawT.mk (by kernel_rfl),?_⟩
        refine CallT.p0 (hA) (by first | rfl | (simp;done)|(simp[hg];done)) (by first | rfl | (simp;done)|(simp;rfl)|(simp[h0,h1,h13,h14,h15,hn,hg,hmd,c,h0,h45,h46,h47,hn,hg,hmd,c2,hj2,w,hlen,hfit,hat,Typ.cells,zeroArg,Arg.cells,Val.cells];done)) ?_
        simp[hn,Typ.cells,zeroArg,Arg.cells,Val.cells]
        cases b
        · have hq:=hok rfl
          simp[h0,h45,h46,h47,hn,w]
          exact⟨⟨j+1,hj2,by omega,hq⟩,upTo_lt h47 (by simp) hj2⟩
        · cases has
          · have hq:=hbad rfl
            simp[hn,hq]
          · have hq:=hok rfl
            simp[h0,h45,h46,h47,hn,w]
            exact⟨⟨j+1,hj2,by omega,hq⟩,upTo_lt h47 (by simp) hj2⟩
      | some n =>
        obtain⟨nn,nt,nh,ne⟩:=n
        rw[hax] at hok hA
        have hq:=hok rfl
        cases nt with
        | mk nt nl nb =>
        cases ne with
        | mk ek en es el ens =>
        simp[h0,h45,h47,hn,c2,hlen,hfit,hat]
        repeat refine⟨DrawT.mk (by kernel_rfl),?_⟩
        refine CallT.p0 (hA) (by first | rfl | (simp;done)|(simp[hg];done)) (by first | rfl | (simp;done)|(simp;rfl)|(simp[h0,h1,h13,h14,h15,hn,hg,hmd,c,h0,h45,h46,h47,hn,hg,hmd,c2,hj2,w,hlen,hfit,hat,Typ.cells,Arg.cells,Val.cells];done)) ?_
        simp[h0,h45,h46,h47,hn,w,Typ.cells,Arg.cells,Val.cells]
        exact⟨⟨j+1,hj2,by omega,hq⟩,upTo_lt h47 (by simp) hj2⟩
    · have hj3:j=f.length:=by omega
      subst hj3
      have hno2:=noUp_all hp2
      have hq:r=false:=by rw[← hr];unfold argsBrk;rw[hno,hno2];rfl
      simp[hn,c2,hq]
def codeF (fl:List Fld) (f:Fld):Int:=match fldAt fl f.name with
  | none=>3
  | some n=>if sameT n.ty f.ty then (if argsBrk f.args n.args then 5 else 0) else 4
def FldF (f:Fld):Prop:=TypF f.ty∧f.args.length≤4611686018427387904∧∀ a∈f.args,TypF a.ty
abbrev grwD (o n:Def):D:=.agg (o.cells++n.cells)
set_option maxHeartbeats 8000000 in
theorem p_fieldCode (o n:Def) (f:Fld) (hf:FldF f) (hnl:n.flds.length≤4611686018427387904) (hn:∀ x∈n.flds,FldF x):PCall Tryz.prog gl 173 [grwD o n,f.d] (dI (codeF n.flds f)):=by
  obtain⟨r,hr⟩:∃ r,codeF n.flds f=r:=⟨_,rfl⟩
  rw[hr]
  obtain⟨on,ok,of,ow⟩:=o
  obtain⟨nn,nk,nf,nw⟩:=n
  obtain⟨fn,fa,ft⟩:=f
  have hA:=p_fieldOf (gl:=gl) nf fn hnl
  have hT:=p_TypePut (gl:=gl) 3 ft hf.1.1 (by omega) hf.1.2
  unfold codeF at hr
  simp only at hr hT hn hnl
  cases ft with
  | mk t lt b =>
  cases h:fldAt nf fn with
  | none =>
    rw[h] at hA hr
    have hq:r=3:=hr.symm
    refine PCall.by_ (md:=[]) Tryz.func173 rfl (by kernel_rfl) (n:=33) Tryz.ntmps173 (by simp) (by decide) rfl ?_
    simp[Def.cells,Fld.cells,Typ.cells]
    repeat refine⟨DrawT.mk (by kernel_rfl),?_⟩
    refine CallT.p0 (hA) (by first | rfl | (simp;done)|(simp[Def.cells,Fld.cells,Typ.cells,zeroFld];done)) (by first | rfl | (simp;done)|(simp;rfl)|(simp[Def.cells,Fld.cells,Typ.cells,zeroFld];done)) ?_
    simp[Fld.cells,Typ.cells,zeroFld]
    simp[hq]
  | some m =>
    have hm:=hn _ (fldAt_mem h)
    obtain⟨mn,ma,mt⟩:=m
    rw[h] at hA hr
    have hT2:=p_TypePut (gl:=gl) 3 mt hm.1.1 (by omega) hm.1.2
    have hB:=p_argsBreak (gl:=gl) fa ma hf.2.2 hm.2.2 hf.2.1 hm.2.1
    unfold sameT at hr
    simp only at hr hT2
    cases mt with
    | mk t2 lt2 b2 =>
    refine PCall.by_ (md:=[]) Tryz.func173 rfl (by kernel_rfl) (n:=33) Tryz.ntmps173 (by simp) (by decide) rfl ?_
    simp[Def.cells,Fld.cells,Typ.cells]
    repeat refine⟨DrawT.mk (by kernel_rfl),?_⟩
    refine CallT.p0 (hA) (by first | rfl | (simp;done)|(simp[Def.cells,Fld.cells,Typ.cells];done)) (by first | rfl | (simp;done)|(simp;rfl)|(simp[Def.cells,Fld.cells,Typ.cells];done)) ?_
    simp[Fld.cells,Typ.cells]
    repeat refine⟨DrawT.mk (by kernel_rfl),?_⟩
    refine CallT.p0 (hT2) (by first | rfl | (simp;done)|(simp[Def.cells,Fld.cells,Typ.cells];done)) (by first | rfl | (simp;done)|(simp;rfl)|(simp[Def.cells,Fld.cells,Typ.cells];done)) ?_
    simp
    repeat refine⟨DrawT.mk (by kernel_rfl),?_⟩
    refine CallT.p0 (hT) (by first | rfl | (simp;done)|(simp[Def.cells,Fld.cells,Typ.cells];done)) (by first | rfl | (simp;done)|(simp;rfl)|(simp[Def.cells,Fld.cells,Typ.cells];done)) ?_
    simp
    by_cases e1:putT (.mk t2 lt2 b2)=putT (.mk t lt b)
    · simp[e1]
      repeat refine⟨DrawT.mk (by kernel_rfl),?_⟩
      refine CallT.p0 (hB) (by first | rfl | (simp;done)|(simp[Def.cells,Fld.cells,Typ.cells];done)) (by first | rfl | (simp;done)|(simp;rfl)|(simp[Def.cells,Fld.cells,Typ.cells];done)) ?_
      simp
      cases hbr:argsBrk fa ma with
      | true =>
        have hq:r=5:=by rw[← hr,if_pos (by simp[e1]),if_pos hbr]
        simp[hq]
      | false =>
        have hq:r=0:=by rw[← hr,if_pos (by simp[e1]),if_neg (by simp[hbr])]
        simp[hq]
    · have hq:r=4:=by rw[← hr,if_neg (by simp[e1])]
      simp[e1,hq]
structure Ext (S S':St):Prop where
  nx:S.nx≤S'.nx
  B:∀ b,b<S.nx→S'.B b=S.B b
  T:∀ i,i<S.nx→S'.T i=S.T i
theorem Ext.trans {S S' S'':St} (h:Ext S S') (k:Ext S' S''):Ext S S'' :=
  ⟨Nat.le_trans h.nx k.nx,fun b hb=>(k.B b (Nat.lt_of_lt_of_le hb h.nx)).trans (h.B b hb),fun b hb=>(k.T b (Nat.lt_of_lt_of_le hb h.nx)).trans (h.T b hb)⟩
theorem Ext.of {S S':St}{u:Nat} (hu:S.nx=u) (h1:u≤S'.nx) (h2:∀ b,b<u→¬ b=u→S'.B b=S.B b) (h3:∀ b,b<u→¬ b=u→S'.T b=S.T b):Ext S S' :=
  ⟨by omega,fun b hb=>h2 b (by omega) (by omega),fun b hb=>h3 b (by omega) (by omega)⟩
theorem Ext.at {S S':St}{v:Nat} (hv:S.nx≤v) (h1:S.nx≤S'.nx) (h2:∀ b,b<S.nx→¬ b=v→S'.B b=S.B b) (h3:∀ b,b<S.nx→¬ b=v→S'.T b=S.T b):Ext S S' :=
  ⟨h1,fun b hb=>h2 b hb (by omega),fun b hb=>h3 b hb (by omega)⟩
theorem Ext.at2 {S S':St}{v v2:Nat} (hv:S.nx≤v) (hv2:S.nx≤v2) (h1:S.nx≤S'.nx) (h2:∀ b,b<S.nx→¬ b=v→¬ b=v2→S'.B b=S.B b) (h3:∀ b,b<S.nx→¬ b=v→¬ b=v2→S'.T b=S.T b):Ext S S' :=
  ⟨h1,fun b hb=>h2 b hb (by omega) (by omega),fun b hb=>h3 b hb (by omega) (by omega)⟩
structure Hand (y:Nat) (I X:St→Prop) (c:Prop):Prop where
  ext:∀ {S S':St},I S→Ext S S'→I S'
  xext:∀ {S S':St},X S→Ext S S'→X S'
  stop:c→∀ (g:SV) (S:St),I S→∃ S',YCall Tryz.prog y [g] S (.d (dB false)) S'∧X S'
theorem Hand.less {y:Nat}{I X:St→Prop}{c c':Prop} (h:Hand y I X c) (k:c'→c):Hand y I X c':=⟨h.ext,h.xext,fun hc=>h.stop (k hc)⟩
theorem Hand.call {y:Nat}{I X:St→Prop}{c:Prop} (H:Hand y I X c) (hc:c) {g:SV}{S0 S:St} (hI:I S0) (hE:Ext S0 S) {K:Bool→SV→St→Prop}
    (h:∀ S',S'.n=S.n→S'.gl=S.gl→S'.md=S.md→S.nx≤S'.nx→X S'→K true (.d (dB false)) S'):YldT Tryz.prog y [g] S K:=by
  obtain⟨S',h1,h2⟩:=H.stop hc g S (H.ext hI hE)
  exact⟨_,S',h1,h S' h1.1.n h1.1.gl h1.1.md h1.1.nx h2⟩
def Part (I X:St→Prop) (S0:St) (b:Bool) (r:SV) (S':St):Prop:=r=.d (dB (!b))∧(b=false→I S'∧Ext S0 S')∧(b=true→X S')
def fldBrk (fl:List Fld) (f:Fld):Bool:=!decide (codeF fl f=0)
theorem fldBrk_of {fl:List Fld}{f:Fld}{k:Int} (h:codeF fl f=k):fldBrk fl f = !decide (k=0):=by rw[← h];rfl
set_option maxHeartbeats 8000000 in
theorem l_growFields (o n:Def) (hof:∀ f∈o.flds,FldF f) (hol:o.flds.length≤4611686018427387904) (hnl:n.flds.length≤4611686018427387904) (hnf:∀ x∈n.flds,FldF x) (y:Nat) (I X:St→Prop) (S0:St) (H:Hand y I X (o.flds.any (fldBrk n.flds)=true)) (hI:I S0) :
    ∃ r S',LCall Tryz.prog 132 [.d (grwD o n), .yv y] S0 r S'∧Part I X S0 (o.flds.any (fldBrk n.flds)) r S':=by
  obtain⟨b,hb⟩:∃ b,o.flds.any (fldBrk n.flds)=b:=⟨_,rfl⟩
  have hC:=fun f hf=>p_fieldCode (gl:=S0.gl) o n f hf hnl hnf
  obtain⟨on,ok,of,ow⟩:=o
  obtain⟨nn,nk,nf,nw⟩:=n
  rw[hb] at H ⊢
  simp only[] at hC hb hof hol ⊢
  refine LCall.ex_ (md:=[]) Tryz.func132 rfl (by kernel_rfl) (by kernel_rfl) (n:=34) Tryz.ntmps132 (by simp) (by decide) rfl ?_
  simp[Def.cells]
  generalize hu:S0.nx=u at *
  refine LoopT.round (fun E S=>∃ (i:Nat),(i≤of.length)∧(noUp (fldBrk nf) of i)∧(S.B u=some [.d (dS on), .d (dI ok), .d (fldsD of), .d (namesD ow), .d (dS nn), .d (dI nk), .d (fldsD nf), .d (namesD nw)])∧(u+1≤S.nx)∧(Ext S0 S)∧E 1=some (.yv y)∧E 2=some (.op u 0)∧E 10=some (.d (fldsD of))∧E 11=some (.d (dI of.length))∧E 12=some (.d (dI i))) (upTo 12 of.length) ⟨0,by simp;exact⟨noUp_zero _ _, .of hu (by simp<;>omega) (fun b hb h1=>by simp[h1]) (fun b hb h1=>by simp)⟩⟩ ?_
  rintro E S hk ⟨i,hi,hp,hbx,hnx,hE,h1,h2,h10,h11,h12⟩
  have hn:S.n=34:=by first | (simpa using hk.n)|(have hh:=hk.n;simp[Def.cells] at hh;exact hh)
  have hg:S.gl=S0.gl:=by first | (simpa using hk.gl)|(have hh:=hk.gl;simp[Def.cells] at hh;exact hh)
  have hmd:S.md=[]:=by first | (simpa using hk.md)|(have hh:=hk.md;simp[Def.cells] at hh;exact hh)
  simp[h11,h12,hn,hg]
  have w:=wrap64 (n:=(i:Int)+1) (by omega) (by omega)
  refine BrT.dec (fun c=>?_) (fun c=>?_)
  · have hi2:i<of.length:=by omega
    have hlen:=flds_len of
    have hfit:i*5+5≤of.length*5:=by omega
    have hat:=flds_at of hi2
    have hc1:=hC _ (hof _ (List.getElem_mem hi2))
    have hbad:fldBrk nf of[i]=true→b=true:=fun h=>by rw[← hb];exact any_at hi2 h
    have hok:fldBrk nf of[i]=false→noUp (fldBrk nf) of (i+1):=fun h=>noUp_next hi2 hp h
    generalize of[i]=f at hat hc1 hbad hok
    obtain⟨fn,fa,ft⟩:=f
    cases ft with
    | mk t lt lb =>
    simp only[Fld.cells,Typ.cells] at hat hc1
    obtain⟨k,hk0⟩:∃ k,codeF nf ⟨fn,fa, .mk t lt lb⟩=k:=⟨_,rfl⟩
    rw[fldBrk_of hk0] at hbad hok
    rw[hk0] at hc1
    have n1:¬ u=S.nx+1+2:=by omega
    simp[h2,h10,h12,hn,c,hlen,hfit,hat,hbx,n1]
    repeat refine⟨DrawT.mk (by kernel_rfl),?_⟩
    refine CallT.p0 (hc1) (by first | rfl | (simp;done)|(simp[hg];done)) (by first | rfl | (simp;done)|(simp;rfl)|(simp[Def.cells,h1,h2,h10,h11,h12,hn,hg,hmd,c,hi2,w,hlen,hfit,hat,hbx,n1];done)) ?_
    simp[hn]
    by_cases hz:k=0
    · have hq:=hok (by simp[hz])
      simp[h1,h2,h10,h11,h12,hn,w,hbx,n1,hz]
      exact⟨⟨i+1,hi2,hq,by omega,hE.trans (.at (v:=S.nx+1+2) (by omega) (by simp<;>omega) (fun z _ h1=>by simp[h1]) (fun z _ _=>by simp)),by omega⟩,upTo_lt h12 (by simp) hi2⟩
    · have hq:=hbad (by simp[hz])
      simp[h1,h2,hn,hbx,n1,hz]
      refine H.call hq hI (hE.trans (.at (v:=S.nx+1+2) (by omega) (by simp<;>omega) (fun z _ h1=>by simp[h1]) (fun z _ _=>by simp))) (fun S3 S3_n S3_gl S3_md S3_nx hX=>?_)
      simp[hn,hg,S3_n,S3_gl]
      subst hq
      exact⟨rfl,nofun,fun _=>H.xext hX ⟨by simp<;>omega,fun _ _=>rfl,fun _ _=>rfl⟩⟩
  · have hi3:i=of.length:=by omega
    subst hi3
    have hno:=noUp_all hp
    have hq:b=false:=by rw[← hb];exact hno
    simp[hn,hg,c]
    subst hq
    have hE2:Ext S { B:=S.B,T:=S.T,n:=S0.n,nx:=S.nx+1+1,md:=S0.md,gl:=S0.gl }:=⟨by simp<;>omega,fun b hb=>rfl,fun b hb=>rfl⟩
    exact⟨rfl,fun _=>⟨H.ext hI (hE.trans hE2),hE.trans hE2⟩,nofun⟩
def fldNeed (k:Int) (of:List Fld) (f:Fld):Bool:=decide (k=3)&&(fldAt of f.name).isNone&&mustT f.ty
set_option maxHeartbeats 8000000 in
theorem l_growNeeded (o n:Def) (hol:o.flds.length≤4611686018427387904) (hnl:n.flds.length≤4611686018427387904) (y:Nat) (I X:St→Prop) (S0:St) (H:Hand y I X (n.flds.any (fldNeed o.kind o.flds)=true)) (hI:I S0) :
    ∃ r S',LCall Tryz.prog 133 [.d (grwD o n), .yv y] S0 r S'∧Part I X S0 (n.flds.any (fldNeed o.kind o.flds)) r S':=by
  obtain⟨b,hb⟩:∃ b,n.flds.any (fldNeed o.kind o.flds)=b:=⟨_,rfl⟩
  obtain⟨on,ok,of,ow⟩:=o
  obtain⟨nn,nk,nf,nw⟩:=n
  rw[hb] at H ⊢
  simp only[] at hb hol hnl ⊢
  refine LCall.ex_ (md:=[]) Tryz.func133 rfl (by kernel_rfl) (by kernel_rfl) (n:=51) Tryz.ntmps133 (by simp) (by decide) rfl ?_
  simp[Def.cells]
  generalize hu:S0.nx=u at *
  refine LoopT.round (fun E S=>∃ (i:Nat),(i≤nf.length)∧(noUp (fldNeed ok of) nf i)∧(S.B u=some [.d (dS on), .d (dI ok), .d (fldsD of), .d (namesD ow), .d (dS nn), .d (dI nk), .d (fldsD nf), .d (namesD nw)])∧(u+1≤S.nx)∧(Ext S0 S)∧E 1=some (.yv y)∧E 2=some (.op u 0)∧E 11=some (.d (fldsD nf))∧E 12=some (.d (dI nf.length))∧E 13=some (.d (dI i))) (upTo 13 nf.length) ⟨0,by simp;exact⟨noUp_zero _ _, .of hu (by simp<;>omega) (fun b hb h1=>by simp[h1]) (fun b hb h1=>by simp)⟩⟩ ?_
  rintro E S hk ⟨i,hi,hp,hbx,hnx,hE,h1,h2,h11,h12,h13⟩
  have hn:S.n=51:=by first | (simpa using hk.n)|(have hh:=hk.n;simp[Def.cells] at hh;exact hh)
  have hg:S.gl=S0.gl:=by first | (simpa using hk.gl)|(have hh:=hk.gl;simp[Def.cells] at hh;exact hh)
  have hmd:S.md=[]:=by first | (simpa using hk.md)|(have hh:=hk.md;simp[Def.cells] at hh;exact hh)
  simp[h12,h13,hn,hg]
  have w:=wrap64 (n:=(i:Int)+1) (by omega) (by omega)
  refine BrT.dec (fun c=>?_) (fun c=>?_)
  · have hi2:i<nf.length:=by omega
    have hlen:=flds_len nf
    have hfit:i*5+5≤nf.length*5:=by omega
    have hat:=flds_at nf hi2
    have hbad:fldNeed ok of nf[i]=true→b=true:=fun h=>by rw[← hb];exact any_at hi2 h
    have hok:fldNeed ok of nf[i]=false→noUp (fldNeed ok of) nf (i+1):=fun h=>noUp_next hi2 hp h
    generalize nf[i]=f at hat hbad hok
    obtain⟨fn,fa,ft⟩:=f
    have hA:=p_fieldOf (gl:=S0.gl) of fn hol
    cases ft with
    | mk t lt lb =>
    simp only[Fld.cells,Typ.cells] at hat
    unfold fldNeed at hbad hok
    simp only[mustT] at hbad hok
    have n1:¬ u=S.nx+1+2:=by omega
    have n2:¬ u=S.nx+1+4+9:=by omega
    cases hax:fldAt of fn with
    | none =>
      rw[hax] at hA hbad hok
      simp[h2,h11,h13,hn,c,hlen,hfit,hat,hbx,n1]
      repeat refine⟨DrawT.mk (by kernel_rfl),?_⟩
      refine CallT.p0 (hA) (by first | rfl | (simp;done)|(simp[hg];done)) (by first | rfl | (simp;done)|(simp;rfl)|(simp[Def.cells,h1,h2,h11,h12,h13,hn,hg,hmd,c,hi2,w,hlen,hfit,hat,hbx,n1,n2,zeroFld,Fld.cells,Typ.cells];done)) ?_
      simp[h2,hn,hbx,n1,n2,zeroFld,Fld.cells,Typ.cells]
      by_cases hk3:ok=3
      · subst hk3
        cases lb
        · have hq:=hok (by simp)
          simp[h1,h2,h11,h12,h13,hn,w,hbx,n1,n2]
          exact⟨⟨i+1,hi2,hq,by omega,hE.trans (.at2 (v:=S.nx+1+2) (v2:=S.nx+1+4+9) (by omega) (by omega) (by simp<;>omega) (fun z _ h1 h2=>by simp[h1,h2]) (fun z _ _ _=>by simp)),by omega⟩,upTo_lt h13 (by simp) hi2⟩
        · have hq:=hbad (by simp)
          simp[h1,h2,hn,hbx,n1,n2]
          refine H.call hq hI (hE.trans (.at2 (v:=S.nx+1+2) (v2:=S.nx+1+4+9) (by omega) (by omega) (by simp<;>omega) (fun z _ h1 h2=>by simp[h1,h2]) (fun z _ _ _=>by simp))) (fun S3 S3_n S3_gl S3_md S3_nx hX=>?_)
          simp[hn,hg,S3_n,S3_gl]
          subst hq
          exact⟨rfl,nofun,fun _=>H.xext hX ⟨by simp<;>omega,fun _ _=>rfl,fun _ _=>rfl⟩⟩
      · have hq:=hok (by simp[hk3])
        simp[h1,h2,h11,h12,h13,hn,w,hbx,n1,n2,hk3]
        exact⟨⟨i+1,hi2,hq,by omega,hE.trans (.at2 (v:=S.nx+1+2) (v2:=S.nx+1+4+9) (by omega) (by omega) (by simp<;>omega) (fun z _ h1 h2=>by simp[h1,h2]) (fun z _ _ _=>by simp)),by omega⟩,upTo_lt h13 (by simp) hi2⟩
    | some m =>
      obtain⟨mn,ma,mt⟩:=m
      rw[hax] at hA hok
      have hq:=hok (by simp)
      cases mt with
      | mk t2 lt2 lb2 =>
      simp[h2,h11,h13,hn,c,hlen,hfit,hat,hbx,n1]
      repeat refine⟨DrawT.mk (by kernel_rfl),?_⟩
      refine CallT.p0 (hA) (by first | rfl | (simp;done)|(simp[hg];done)) (by first | rfl | (simp;done)|(simp;rfl)|(simp[Def.cells,h1,h2,h11,h12,h13,hn,hg,hmd,c,hi2,w,hlen,hfit,hat,hbx,n1,n2,Fld.cells,Typ.cells];done)) ?_
      simp[h2,hn,hbx,n1,n2,Fld.cells,Typ.cells]
      by_cases hk3:ok=3
      · subst hk3
        simp[h1,h2,h11,h12,h13,hn,w,hbx,n1,n2]
        exact⟨⟨i+1,hi2,hq,by omega,hE.trans (.at2 (v:=S.nx+1+2) (v2:=S.nx+1+4+9) (by omega) (by omega) (by simp<;>omega) (fun z _ h1 h2=>by simp[h1,h2]) (fun z _ _ _=>by simp)),by omega⟩,upTo_lt h13 (by simp) hi2⟩
      · simp[h1,h2,h11,h12,h13,hn,w,hbx,n1,n2,hk3]
        exact⟨⟨i+1,hi2,hq,by omega,hE.trans (.at2 (v:=S.nx+1+2) (v2:=S.nx+1+4+9) (by omega) (by omega) (by simp<;>omega) (fun z _ h1 h2=>by simp[h1,h2]) (fun z _ _ _=>by simp)),by omega⟩,upTo_lt h13 (by simp) hi2⟩
  · have hi3:i=nf.length:=by omega
    subst hi3
    have hno:=noUp_all hp
    have hq:b=false:=by rw[← hb];exact hno
    simp[hn,hg,c]
    subst hq
    have hE2:Ext S { B:=S.B,T:=S.T,n:=S0.n,nx:=S.nx+1+1,md:=S0.md,gl:=S0.gl }:=⟨by simp<;>omega,fun b hb=>rfl,fun b hb=>rfl⟩
    exact⟨rfl,fun _=>⟨H.ext hI (hE.trans hE2),hE.trans hE2⟩,nofun⟩
def wordGone (l:List ByteArray) (s:ByteArray):Bool:=!memB s l
set_option maxHeartbeats 8000000 in
theorem l_growGone (o n:Def) (hol:o.words.length≤4611686018427387904) (hnl:n.words.length≤4611686018427387904) (y:Nat) (I X:St→Prop) (S0:St) (H:Hand y I X (o.words.any (wordGone n.words)=true)) (hI:I S0) :
    ∃ r S',LCall Tryz.prog 134 [.d (grwD o n), .yv y] S0 r S'∧Part I X S0 (o.words.any (wordGone n.words)) r S':=by
  obtain⟨b,hb⟩:∃ b,o.words.any (wordGone n.words)=b:=⟨_,rfl⟩
  obtain⟨on,ok,of,ow⟩:=o
  obtain⟨nn,nk,nf,nw⟩:=n
  rw[hb] at H ⊢
  simp only[] at hb hol hnl ⊢
  refine LCall.ex_ (md:=[]) Tryz.func134 rfl (by kernel_rfl) (by kernel_rfl) (n:=32) Tryz.ntmps134 (by simp) (by decide) rfl ?_
  simp[Def.cells]
  generalize hu:S0.nx=u at *
  refine LoopT.round (fun E S=>∃ (i:Nat),(i≤ow.length)∧(noUp (wordGone nw) ow i)∧(S.B u=some [.d (dS on), .d (dI ok), .d (fldsD of), .d (namesD ow), .d (dS nn), .d (dI nk), .d (fldsD nf), .d (namesD nw)])∧(u+1≤S.nx)∧(Ext S0 S)∧E 1=some (.yv y)∧E 2=some (.op u 0)∧E 9=some (.d (namesD ow))∧E 10=some (.d (dI ow.length))∧E 11=some (.d (dI i))) (upTo 11 ow.length) ⟨0,by simp;exact⟨noUp_zero _ _, .of hu (by simp<;>omega) (fun b hb h1=>by simp[h1]) (fun b hb h1=>by simp)⟩⟩ ?_
  rintro E S hk ⟨i,hi,hp,hbx,hnx,hE,h1,h2,h9,h10,h11⟩
  have hn:S.n=32:=by first | (simpa using hk.n)|(have hh:=hk.n;simp[Def.cells] at hh;exact hh)
  have hg:S.gl=S0.gl:=by first | (simpa using hk.gl)|(have hh:=hk.gl;simp[Def.cells] at hh;exact hh)
  have hmd:S.md=[]:=by first | (simpa using hk.md)|(have hh:=hk.md;simp[Def.cells] at hh;exact hh)
  simp[h10,h11,hn,hg]
  have w:=wrap64 (n:=(i:Int)+1) (by omega) (by omega)
  refine BrT.dec (fun c=>?_) (fun c=>?_)
  · have hi2:i<ow.length:=by omega
    have hbad:wordGone nw ow[i]=true→b=true:=fun h=>by rw[← hb];exact any_at hi2 h
    have hok:wordGone nw ow[i]=false→noUp (wordGone nw) ow (i+1):=fun h=>noUp_next hi2 hp h
    obtain⟨s,hs⟩:∃ s,ow[i]=s:=⟨_,rfl⟩
    rw[hs] at hbad hok
    have hA:=p_Contains (gl:=S0.gl) nw s hnl
    unfold wordGone at hbad hok
    simp[h2,h9,h11,hn,c,hbx,hs]
    repeat refine⟨DrawT.mk (by kernel_rfl),?_⟩
    refine CallT.p0 (hA) (by first | rfl | (simp;done)|(simp[hg];done)) (by first | rfl | (simp;done)|(simp;rfl)|(simp[Def.cells,h1,h2,h9,h10,h11,hn,hg,hmd,c,hi2,w,hbx,hs];done)) ?_
    simp[hn]
    cases hm:memB s nw
    · rw[hm] at hbad
      have hq:=hbad rfl
      simp[h1,h2,hn,hbx]
      refine H.call hq hI (hE.trans ⟨by simp<;>omega,fun _ _=>by simp,fun _ _=>by simp⟩) (fun S3 S3_n S3_gl S3_md S3_nx hX=>?_)
      simp[hn,hg,S3_n,S3_gl]
      subst hq
      exact⟨rfl,nofun,fun _=>H.xext hX ⟨by simp<;>omega,fun _ _=>rfl,fun _ _=>rfl⟩⟩
    · rw[hm] at hok
      have hq:=hok rfl
      simp[h1,h2,h9,h10,h11,hn,w,hbx]
      exact⟨⟨i+1,hi2,hq,by omega,hE.trans ⟨by simp<;>omega,fun _ _=>by simp,fun _ _=>by simp⟩,by omega⟩,upTo_lt h11 (by simp) hi2⟩
  · have hi3:i=ow.length:=by omega
    subst hi3
    have hno:=noUp_all hp
    have hq:b=false:=by rw[← hb];exact hno
    simp[hn,hg,c]
    subst hq
    have hE2:Ext S { B:=S.B,T:=S.T,n:=S0.n,nx:=S.nx+1+1,md:=S0.md,gl:=S0.gl }:=⟨by simp<;>omega,fun b hb=>rfl,fun b hb=>rfl⟩
    exact⟨rfl,fun _=>⟨H.ext hI (hE.trans hE2),hE.trans hE2⟩,nofun⟩
def wordMore (k:Int) (l:List ByteArray) (s:ByteArray):Bool:=decide (k=4) && !memB s l
set_option maxHeartbeats 8000000 in
theorem l_growMore (o n:Def) (hol:o.words.length≤4611686018427387904) (hnl:n.words.length≤4611686018427387904) (y:Nat) (I X:St→Prop) (S0:St) (H:Hand y I X (n.words.any (wordMore o.kind o.words)=true)) (hI:I S0) :
    ∃ r S',LCall Tryz.prog 135 [.d (grwD o n), .yv y] S0 r S'∧Part I X S0 (n.words.any (wordMore o.kind o.words)) r S':=by
  obtain⟨b,hb⟩:∃ b,n.words.any (wordMore o.kind o.words)=b:=⟨_,rfl⟩
  obtain⟨on,ok,of,ow⟩:=o
  obtain⟨nn,nk,nf,nw⟩:=n
  rw[hb] at H ⊢
  simp only[] at hb hol hnl ⊢
  refine LCall.ex_ (md:=[]) Tryz.func135 rfl (by kernel_rfl) (by kernel_rfl) (n:=40) Tryz.ntmps135 (by simp) (by decide) rfl ?_
  simp[Def.cells]
  generalize hu:S0.nx=u at *
  refine LoopT.round (fun E S=>∃ (i:Nat),(i≤nw.length)∧(noUp (wordMore ok ow) nw i)∧(S.B u=some [.d (dS on), .d (dI ok), .d (fldsD of), .d (namesD ow), .d (dS nn), .d (dI nk), .d (fldsD nf), .d (namesD nw)])∧(u+1≤S.nx)∧(Ext S0 S)∧E 1=some (.yv y)∧E 2=some (.op u 0)∧E 10=some (.d (namesD nw))∧E 11=some (.d (dI nw.length))∧E 12=some (.d (dI i))) (upTo 12 nw.length) ⟨0,by simp;exact⟨noUp_zero _ _, .of hu (by simp<;>omega) (fun b hb h1=>by simp[h1]) (fun b hb h1=>by simp)⟩⟩ ?_
  rintro E S hk ⟨i,hi,hp,hbx,hnx,hE,h1,h2,h10,h11,h12⟩
  have hn:S.n=40:=by first | (simpa using hk.n)|(have hh:=hk.n;simp[Def.cells] at hh;exact hh)
  have hg:S.gl=S0.gl:=by first | (simpa using hk.gl)|(have hh:=hk.gl;simp[Def.cells] at hh;exact hh)
  have hmd:S.md=[]:=by first | (simpa using hk.md)|(have hh:=hk.md;simp[Def.cells] at hh;exact hh)
  simp[h11,h12,hn,hg]
  have w:=wrap64 (n:=(i:Int)+1) (by omega) (by omega)
  refine BrT.dec (fun c=>?_) (fun c=>?_)
  · have hi2:i<nw.length:=by omega
    have hbad:wordMore ok ow nw[i]=true→b=true:=fun h=>by rw[← hb];exact any_at hi2 h
    have hok:wordMore ok ow nw[i]=false→noUp (wordMore ok ow) nw (i+1):=fun h=>noUp_next hi2 hp h
    obtain⟨s,hs⟩:∃ s,nw[i]=s:=⟨_,rfl⟩
    rw[hs] at hbad hok
    have hA:=p_Contains (gl:=S0.gl) ow s hol
    unfold wordMore at hbad hok
    simp[h2,h10,h12,hn,c,hbx,hs]
    by_cases hk4:ok=4
    · subst hk4
      simp[h2,hn,hbx]
      repeat refine⟨DrawT.mk (by kernel_rfl),?_⟩
      refine CallT.p0 (hA) (by first | rfl | (simp;done)|(simp[hg];done)) (by first | rfl | (simp;done)|(simp;rfl)|(simp[Def.cells,h1,h2,h10,h11,h12,hn,hg,hmd,c,hi2,w,hbx,hs];done)) ?_
      simp[hn]
      cases hm:memB s ow
      · rw[hm] at hbad
        have hq:=hbad rfl
        simp[h1,h2,hn,hbx]
        refine H.call hq hI (hE.trans ⟨by simp<;>omega,fun _ _=>by simp,fun _ _=>by simp⟩) (fun S3 S3_n S3_gl S3_md S3_nx hX=>?_)
        simp[hn,hg,S3_n,S3_gl]
        subst hq
        exact⟨rfl,nofun,fun _=>H.xext hX ⟨by simp<;>omega,fun _ _=>rfl,fun _ _=>rfl⟩⟩
      · rw[hm] at hok
        have hq:=hok rfl
        simp[h1,h2,h10,h11,h12,hn,w,hbx]
        exact⟨⟨i+1,hi2,hq,by omega,hE.trans ⟨by simp<;>omega,fun _ _=>by simp,fun _ _=>by simp⟩,by omega⟩,upTo_lt h12 (by simp) hi2⟩
    · have hq:=hok (by simp[hk4])
      simp[h1,h2,h10,h11,h12,hn,w,hbx,hk4]
      exact⟨⟨i+1,hi2,hq,by omega,hE.trans ⟨by simp<;>omega,fun _ _=>by simp,fun _ _=>by simp⟩,by omega⟩,upTo_lt h12 (by simp) hi2⟩
  · have hi3:i=nw.length:=by omega
    subst hi3
    have hno:=noUp_all hp
    have hq:b=false:=by rw[← hb];exact hno
    simp[hn,hg,c]
    subst hq
    have hE2:Ext S { B:=S.B,T:=S.T,n:=S0.n,nx:=S.nx+1+1,md:=S0.md,gl:=S0.gl }:=⟨by simp<;>omega,fun b hb=>rfl,fun b hb=>rfl⟩
    exact⟨rfl,fun _=>⟨H.ext hI (hE.trans hE2),hE.trans hE2⟩,nofun⟩
end Go.Proofs.YtlmpjblmmpddeaaGreat
namespace Go.Proofs.YtlmpjblmmpddeaaGreat
open Go.Sh
theorem check_zero {l:List Def}:checkB l=0↔(l.length≤10∧l.all defB=true∧(schL l).length=l.length∧l.all (defHere l)=true∧l.all (defPlaced l)=true∧rootsB l=true∧l.all (defFits l)=true∧roundB l=false):=by
  unfold checkB checkS
  by_cases a1:10<l.length
  · rw[if_pos a1];exact⟨fun h=>absurd h (by decide),fun h=>by omega⟩
  rw[if_neg a1]
  by_cases a2:l.all defB=true
  · rw[if_neg (fun h=>h a2)]
    by_cases a3:(schL l).length=l.length
    · rw[if_neg (fun h=>h a3)]
      by_cases a4:l.all (defHere l)=true
      · rw[if_neg (fun h=>h a4)]
        by_cases a5:l.all (defPlaced l)=true
        · rw[if_neg (fun h=>h a5)]
          by_cases a6:rootsB l=true
          · rw[if_neg (fun h=>h a6)]
            by_cases a7:l.all (defFits l)=true
            · rw[if_neg (fun h=>h a7)]
              by_cases a8:roundB l=true
              · rw[if_pos a8];exact⟨fun h=>absurd h (by decide),fun h=>by rw[a8] at h;exact absurd h.2.2.2.2.2.2.2 (by decide)⟩
              · rw[if_neg a8];exact⟨fun _=>⟨by omega,a2,a3,a4,a5,a6,a7,by simpa using a8⟩,fun _=>rfl⟩
            · rw[if_pos a7];exact⟨fun h=>absurd h (by decide),fun h=>absurd h.2.2.2.2.2.2.1 a7⟩
          · rw[if_pos a6];exact⟨fun h=>absurd h (by decide),fun h=>absurd h.2.2.2.2.2.1 a6⟩
        · rw[if_pos a5];exact⟨fun h=>absurd h (by decide),fun h=>absurd h.2.2.2.2.1 a5⟩
      · rw[if_pos a4];exact⟨fun h=>absurd h (by decide),fun h=>absurd h.2.2.2.1 a4⟩
    · rw[if_pos a3];exact⟨fun h=>absurd h (by decide),fun h=>absurd h.2.2.1 a3⟩
  · rw[if_pos a2];exact⟨fun h=>absurd h (by decide),fun h=>absurd h.2.1 a2⟩
end Go.Proofs.YtlmpjblmmpddeaaGreat
namespace Go.Proofs.YtlmpjblmmpddeaaGreat
open Go.Sh
variable {gl:Nat→Option D}
theorem fldF_of {d:Def} (hd:defB d=true) (hk:DefOk d):∀ f∈d.flds,FldF f:=fun f hf=>by
  rw[← defForm_eq] at hd
  unfold formD at hd
  simp only[Bool.and_eq_true,List.all_eq_true] at hd
  have h1:=hd.1 f hf
  unfold fldB argsB at h1
  simp only[Bool.and_eq_true,List.all_eq_true,decide_eq_true_eq] at h1
  have h2:=hk.2.1.2 f hf
  refine⟨⟨h1.1.1,h2.2.2⟩,h2.2.1.1,fun a ha=>⟨?_,(h2.2.1.2 a ha).2.1⟩⟩
  have h3:=h1.1.2.2.1 a ha
  unfold argB at h3
  simp only[Bool.and_eq_true] at h3
  exact h3.1
def partsB (o n:Def):Bool:=o.flds.any (fldBrk n.flds) || (n.flds.any (fldNeed o.kind o.flds) || (o.words.any (wordGone n.words) || n.words.any (wordMore o.kind o.words)))
def defBrk (f:List Def) (d:Def):Bool:=match atD f d.name with | none=>true | some _=>decide (kindL f d.name≠d.kind) || partsB d (defL f d.name)
def brkB (o f:List Def):Bool:=if checkB o=0∧checkB f=0 then o.any (defBrk f) else true
structure ChkF (l:List Def):Prop where
  len:l.length≤10
  def_:∀ d∈l,defB d=true
  self:schL l=l
  ok:∀ d∈l,DefOk d
theorem ChkF.of {l:List Def} (h:checkB l=0) (hs:∀ d∈l,DefSm d):ChkF l:=by
  obtain⟨h1,h2,h3,_⟩:=check_zero.1 h
  exact⟨h1,fun d hd=>List.all_eq_true.1 h2 d hd,schL_self h3,fun d hd=>def_ok (hs d hd)⟩
theorem Ext.at3 {S S':St}{v v2 v3:Nat} (hv:S.nx≤v) (hv2:S.nx≤v2) (hv3:S.nx≤v3) (h1:S.nx≤S'.nx) (h2:∀ b,b<S.nx→¬ b=v→¬ b=v2→¬ b=v3→S'.B b=S.B b) (h3:∀ b,b<S.nx→¬ b=v→¬ b=v2→¬ b=v3→S'.T b=S.T b):Ext S S' :=
  ⟨h1,fun b hb=>h2 b hb (by omega) (by omega) (by omega),fun b hb=>h3 b hb (by omega) (by omega) (by omega)⟩
theorem part_call {P:Program}{lo:Lo}{g:FuncId}{ss:List SV}{S0 S:St}{K:Bool→SV→St→Prop}{I X:St→Prop}{b:Bool} (h:∃ r S',LCall P g ss S r S'∧Part I X S b r S') (hE:Ext S0 S) (hl:lo.loud=true)
    (k1:∀ S',S'.n=S.n→S'.gl=S.gl→S'.md=S.md→b=false→I S'→Ext S0 S'→K true (.d (dB true)) S')
    (k2:∀ S',S'.n=S.n→S'.gl=S.gl→S'.md=S.md→b=true→X S'→K true (.d (dB false)) S'):CallT lo P g ss S K:=by
  obtain⟨r,S',h1,h2,h3,h4⟩:=h
  subst h2
  refine CallT.l h1 hl ?_
  cases b
  · exact k1 S' h1.2.1.n h1.2.1.gl h1.2.1.md rfl (h3 rfl).1 (hE.trans (h3 rfl).2)
  · exact k2 S' h1.2.1.n h1.2.1.gl h1.2.1.md rfl (h4 rfl)
theorem loopT_gen {P:Program}{c:Cd}{E:Env}{S:St}{Q:Exit→Env→St→Prop} (R:St→Prop) (hR:R S) (h:∀ S',R S'→@LoopT P c E S' Q):@LoopT P c E S Q:=h _ hR
set_option maxHeartbeats 16000000 in
theorem l_breaks (o f:List Def) (hol:o.length≤1048576) (hfl:f.length≤1048576) (ho:∀ d∈o,DefSm d) (hf:∀ d∈f,DefSm d) (y bo bf:Nat) (I X:St→Prop) (S0:St) (H:Hand y I X (brkB o f=true)) (hI:I S0) (S9:St) (hkeep:Keeps S0 S9) (hE0:brkB o f=false→∀ S,Ext S0 S→I S→Elder S0 S9 S) (hX0:brkB o f=true→∀ S,X S→Elder S0 S9 S)
    (hbo:bo<S0.nx) (hbf:bf<S0.nx) (hBo:S0.B bo=some [.d (defsD o)]) (hBf:S0.B bf=some [.d (defsD f)]) :
    LCall Tryz.prog 131 [.yv y, .op bo 0, .op bf 0] S0 (.tu []) S9:=by
  obtain⟨b,hb⟩:∃ b,brkB o f=b:=⟨_,rfl⟩
  rw[hb] at H hE0 hX0
  have hCo:=p_imCheck (gl:=S0.gl) o hol ho
  have hCf:=p_imCheck (gl:=S0.gl) f hfl hf
  refine LCall.byE (md:=[]) hkeep (by simp[SV.lt,ltS]) Tryz.func131 rfl (by kernel_rfl) (n:=76) Tryz.ntmps131 (by simp) (by decide) rfl ?_
  simp[hBo]
  repeat refine⟨DrawT.mk (by kernel_rfl),?_⟩
  refine CallT.p0 (hCo) (by first | rfl | (simp;done)|(simp[hBo,hBf];done)) (by first | rfl | (simp;done)|(simp;rfl)|(simp[hBo,hBf];done)) ?_
  simp
  by_cases c1:checkB o=0
  · simp[hBf,c1]
    repeat refine⟨DrawT.mk (by kernel_rfl),?_⟩
    refine CallT.p0 (hCf) (by first | rfl | (simp;done)|(simp[hBo,hBf];done)) (by first | rfl | (simp;done)|(simp;rfl)|(simp[hBo,hBf];done)) ?_
    simp
    by_cases c2:checkB f=0
    · rw[brkB,if_pos ⟨c1,c2⟩] at hb
      have hF:=ChkF.of c2 hf
      have hO:=ChkF.of c1 ho
      have hS:=p_schemaOf (gl:=S0.gl) f (by have:=hF.len;omega)
      rw[hF.self] at hS
      simp[hBf,c2]
      repeat refine⟨DrawT.mk (by kernel_rfl),?_⟩
      refine CallT.p0 (hS) (by first | rfl | (simp;done)|(simp[hBo,hBf];done)) (by first | rfl | (simp;done)|(simp;rfl)|(simp[hBo,hBf];done)) ?_
      simp[hBo]
      refine LoopT.round (fun E S=>∃ (i:Nat),(i≤o.length)∧(noUp (defBrk f) o i)∧(Ext S0 S)∧E 0=some (.yv y)∧E 1=some (.op bo 0)∧E 2=some (.op bf 0)∧E 4=some (.d (schD f))∧E 25=some (.d (defsD o))∧E 26=some (.d (dI o.length))∧E 27=some (.d (dI i))) (upTo 27 o.length) ⟨0,by simp;exact⟨noUp_zero _ _,by simp<;>omega,fun _ _=>by simp,fun _ _=>by simp⟩⟩ ?_
      rintro E S hk ⟨i,hi,hp,hE,h0,h1,h2,h4,h25,h26,h27⟩
      have hn:S.n=76:=by first | (simpa using hk.n)|(have hh:=hk.n;simp[hBo,hBf] at hh;exact hh)
      have hg:S.gl=S0.gl:=by first | (simpa using hk.gl)|(have hh:=hk.gl;simp[hBo,hBf] at hh;exact hh)
      have hmd:S.md=[]:=by first | (simpa using hk.md)|(have hh:=hk.md;simp[hBo,hBf] at hh;exact hh)
      simp[h26,h27,hn,hg]
      have w:=wrap64 (n:=(i:Int)+1) (by omega) (by omega)
      refine BrT.dec (fun c=>?_) (fun c=>?_)
      · have hi2:i<o.length:=by omega
        have hlen:=defs_len o
        have hfit:i*4+4≤o.length*4:=by omega
        have hat:=defs_at o hi2
        have hdB:=hO.def_ _ (List.getElem_mem hi2)
        have hdO:=hO.ok _ (List.getElem_mem hi2)
        have hbad:defBrk f o[i]=true→b=true:=fun h=>by rw[← hb];exact any_at hi2 h
        have hok:defBrk f o[i]=false→noUp (defBrk f) o (i+1):=fun h=>noUp_next hi2 hp h
        generalize o[i]=d at hat hbad hok hdB hdO
        have hdF:=fldF_of hdB hdO
        obtain⟨dn,dk,df,dw⟩:=d
        simp only[Def.cells] at hat
        unfold defBrk at hbad hok
        simp only at hbad hok
        simp[h4,h25,h27,hn,c,hlen,hfit,hat]
        cases ha:atD f dn with
        | none =>
          rw[ha] at hbad
          have hq:=hbad rfl
          refine⟨_,look_none ha,?_⟩
          simp[h0,hn]
          refine H.call hq hI (hE.trans (.at2 (v:=S.nx+1+2) (v2:=S.nx+1+4+7) (by omega) (by omega) (by simp<;>omega) (fun z _ h1 h2=>by simp[h1,h2]) (fun z _ _ _=>by simp))) (fun S3 S3_n S3_gl S3_md S3_nx hX=>?_)
          simp[hn,S3_n]
          subst hq
          exact hX0 rfl _ (H.xext hX ⟨by simp<;>omega,fun _ _=>by simp,fun _ _=>by simp⟩)
        | some j =>
          rw[ha] at hbad hok
          simp only at hbad hok
          have hj:=atD_lt ha
          have hnm:defL f dn∈f:=by rw[defL_some ha];exact List.getElem_mem hj
          have hnB:=hF.def_ _ hnm
          have hnO:=hF.ok _ hnm
          have hnF:=fldF_of hnB hnO
          refine⟨_,look_some ha,?_⟩
          rw[show kindL f dn=(defL f dn).kind from rfl] at hbad hok
          generalize defL f dn=n at hbad hok hnB hnO hnF
          obtain⟨nn,nk,nf,nw⟩:=n
          simp only at hbad hok
          simp[hn,hg,Def.cells]
          by_cases hk2:nk=dk
          · subst hk2
            simp[hn,hmd]
            refine loopT_gen (fun S'=>S'.n=76∧S'.gl=S0.gl∧S'.md=[]∧Ext S0 S') ⟨by simp[hn],by simp[hg],by simp[hmd],hE.trans (.at3 (v:=S.nx+1+2) (v2:=S.nx+1+4+7) (v3:=S.nx+1+4+10+9+3) (by omega) (by omega) (by omega) (by simp<;>omega) (fun z _ h1 h2 h3=>by simp[h1,h2,h3]) (fun z _ _ _ _=>by simp))⟩ (fun S1 h1=>?_)
            obtain⟨S1_n,S1_gl,S1_md,hE1⟩:=h1
            refine LoopT.rounds 5 ?_
            simp[h0,S1_n,S1_gl,RndT_succ]
            have hbp:partsB ⟨dn,nk,df,dw⟩ ⟨nn,nk,nf,nw⟩=true→b=true:=fun h=>hbad (by rw[h,Bool.or_true])
            refine part_call (l_growFields ⟨dn,nk,df,dw⟩ ⟨nn,nk,nf,nw⟩ hdF hdO.2.1.1 hnO.2.1.1 hnF y I X _ (H.less fun h:df.any (fldBrk nf)=true=>hbp (by simp[partsB,h])) (H.ext hI (hE1.trans ⟨by simp<;>omega,fun _ _=>by simp,fun _ _=>by simp⟩))) (hE1.trans ⟨by simp<;>omega,fun _ _=>by simp,fun _ _=>by simp⟩) rfl (fun S2 S2_n S2_gl S2_md h2b hI2 hE2=>?_) (fun S2 S2_n S2_gl S2_md h2b hX=>?_)
            case' refine_2 =>
              simp[S1_n,S2_n]
              have hq:=hbp (by simp[partsB,h2b])
              subst hq
              exact hX0 rfl _ (H.xext hX ⟨by simp<;>omega,fun _ _=>by simp,fun _ _=>by simp⟩)
            simp[h0,S1_n,S1_gl,S2_n,S2_gl]
            refine part_call (l_growNeeded ⟨dn,nk,df,dw⟩ ⟨nn,nk,nf,nw⟩ hdO.2.1.1 hnO.2.1.1 y I X _ (H.less fun h:nf.any (fldNeed nk df)=true=>hbp (by simp[partsB,h])) (H.ext hI (hE2.trans ⟨by simp<;>omega,fun _ _=>by simp,fun _ _=>by simp⟩))) (hE2.trans ⟨by simp<;>omega,fun _ _=>by simp,fun _ _=>by simp⟩) rfl (fun S3 S3_n S3_gl S3_md h3b hI3 hE3=>?_) (fun S3 S3_n S3_gl S3_md h3b hX=>?_)
            case' refine_2 =>
              simp[S1_n,S2_n,S3_n]
              have hq:=hbp (by simp[partsB,h3b])
              subst hq
              exact hX0 rfl _ (H.xext hX ⟨by simp<;>omega,fun _ _=>by simp,fun _ _=>by simp⟩)
            simp[h0,S1_n,S1_gl,S2_n,S2_gl,S3_n,S3_gl]
            refine part_call (l_growGone ⟨dn,nk,df,dw⟩ ⟨nn,nk,nf,nw⟩ (by have:=hdO.2.2.1;simp at this;simp;omega) (by have:=hnO.2.2.1;simp at this;simp;omega) y I X _ (H.less fun h:dw.any (wordGone nw)=true=>hbp (by simp[partsB,h])) (H.ext hI (hE3.trans ⟨by simp<;>omega,fun _ _=>by simp,fun _ _=>by simp⟩))) (hE3.trans ⟨by simp<;>omega,fun _ _=>by simp,fun _ _=>by simp⟩) rfl (fun S4 S4_n S4_gl S4_md h4b hI4 hE4=>?_) (fun S4 S4_n S4_gl S4_md h4b hX=>?_)
            case' refine_2 =>
              simp[S1_n,S2_n,S3_n,S4_n]
              have hq:=hbp (by simp[partsB,h4b])
              subst hq
              exact hX0 rfl _ (H.xext hX ⟨by simp<;>omega,fun _ _=>by simp,fun _ _=>by simp⟩)
            simp[h0,S1_n,S1_gl,S2_n,S2_gl,S3_n,S3_gl,S4_n,S4_gl]
            refine part_call (l_growMore ⟨dn,nk,df,dw⟩ ⟨nn,nk,nf,nw⟩ (by have:=hdO.2.2.1;simp at this;simp;omega) (by have:=hnO.2.2.1;simp at this;simp;omega) y I X _ (H.less fun h:nw.any (wordMore nk dw)=true=>hbp (by simp[partsB,h])) (H.ext hI (hE4.trans ⟨by simp<;>omega,fun _ _=>by simp,fun _ _=>by simp⟩))) (hE4.trans ⟨by simp<;>omega,fun _ _=>by simp,fun _ _=>by simp⟩) rfl (fun S5 S5_n S5_gl S5_md h5b hI5 hE5=>?_) (fun S5 S5_n S5_gl S5_md h5b hX=>?_)
            case' refine_2 =>
              simp[S1_n,S2_n,S3_n,S4_n,S5_n]
              have hq:=hbp (by simp[partsB,h5b])
              subst hq
              exact hX0 rfl _ (H.xext hX ⟨by simp<;>omega,fun _ _=>by simp,fun _ _=>by simp⟩)
            simp[h0,h1,h2,h4,h25,h26,h27,w,S1_n,S1_gl,S2_n,S2_gl,S3_n,S3_gl,S4_n,S4_gl,S5_n,S5_gl]
            have hq:=hok (by simp[partsB,h2b,h3b,h4b,h5b])
            exact⟨⟨i+1,hi2,hq,hE5.trans ⟨by simp<;>omega,fun _ _=>by simp,fun _ _=>by simp⟩,by omega⟩,upTo_lt h27 (by simp) hi2⟩
          · have hq:=hbad (by simp[hk2])
            simp[h0,hn,hk2]
            refine H.call hq hI (hE.trans (.at2 (v:=S.nx+1+2) (v2:=S.nx+1+4+7) (by omega) (by omega) (by simp<;>omega) (fun z _ h1 h2=>by simp[h1,h2]) (fun z _ _ _=>by simp))) (fun S3 S3_n S3_gl S3_md S3_nx hX=>?_)
            simp[hn,S3_n]
            subst hq
            exact hX0 rfl _ (H.xext hX ⟨by simp<;>omega,fun _ _=>by simp,fun _ _=>by simp⟩)
      · have hi3:i=o.length:=by omega
        subst hi3
        have hno:=noUp_all hp
        have hq:b=false:=by rw[← hb];exact hno
        simp[c]
        subst hq
        exact hE0 rfl _ (hE.trans ⟨by simp<;>omega,fun _ _=>by simp,fun _ _=>by simp⟩) (H.ext hI (hE.trans ⟨by simp<;>omega,fun _ _=>by simp,fun _ _=>by simp⟩))
    · rw[brkB,if_neg (fun h=>c2 h.2)] at hb
      simp[c2]
      refine H.call hb.symm hI ⟨by simp<;>omega,fun _ _=>by simp,fun _ _=>by simp⟩ (fun S3 S3_n S3_gl S3_md S3_nx hX=>?_)
      simp
      subst hb
      exact hX0 rfl _ (H.xext hX ⟨by simp<;>omega,fun _ _=>by simp,fun _ _=>by simp⟩)
  · rw[brkB,if_neg (fun h=>c1 h.1)] at hb
    simp[c1]
    refine H.call hb.symm hI ⟨by simp<;>omega,fun _ _=>by simp,fun _ _=>by simp⟩ (fun S3 S3_n S3_gl S3_md S3_nx hX=>?_)
    simp
    subst hb
    exact hX0 rfl _ (H.xext hX ⟨by simp<;>omega,fun _ _=>by simp,fun _ _=>by simp⟩)
def argI (l:List Arg) (s:ByteArray):Int:=match l.findIdx? (fun f=>decide (f.name=s)) with | some j=>j | none=>-1
theorem argI_found {l:List Arg}{s:ByteArray}{i:Nat} (hi:i<l.length) (h:∀ j (hj:j<l.length),j<i→l[j].name≠s) (he:l[i].name=s):argI l s=i:=by
  have:l.findIdx? (fun f=>decide (f.name=s))=some i:=by
    rw[List.findIdx?_eq_some_iff_getElem]
    exact⟨hi,by simp[he],fun j hj=>by simpa using h j (by omega) hj⟩
  unfold argI;rw[this]
theorem argI_none {l:List Arg}{s:ByteArray} (h:∀ j (hj:j<l.length),l[j].name≠s):argI l s = -1:=by
  have:l.findIdx? (fun f=>decide (f.name=s))=none:=by
    rw[List.findIdx?_eq_none_iff]
    intro d hd
    obtain⟨j,hj,rfl⟩:=List.getElem_of_mem hd
    simpa using h j hj
  unfold argI;rw[this]
theorem argI_at (l:List Arg) (s:ByteArray):(argI l s = -1∧argAt l s=none)∨∃ (j:Nat) (h:j<l.length),argI l s=j∧argAt l s=some l[j]:=by
  unfold argI argAt
  cases h:l.findIdx? (fun f=>decide (f.name=s)) with
  | none =>
    refine .inl ⟨rfl,?_⟩
    rw[List.findIdx?_eq_none_iff] at h
    rw[List.find?_eq_none]
    exact fun x hx=>by simpa using h x hx
  | some j =>
    obtain⟨h1,h2,h3⟩:=List.findIdx?_eq_some_iff_getElem.1 h
    refine .inr ⟨j,h1,rfl,?_⟩
    rw[List.find?_eq_some_iff_getElem]
    exact⟨h2,j,h1,rfl,fun k hk=>by simpa using h3 k hk⟩
set_option maxHeartbeats 2000000 in
theorem p_l9Arg (d:Fld) (s:ByteArray) (hl:d.args.length≤4611686018427387904):PCall Tryz.prog gl 182 [d.d,dS s] (dI (argI d.args s)):=by
  obtain⟨dn,l,ty⟩:=d
  simp only at hl
  cases ty with
  | mk t lt lb =>
  refine PCall.by_ (md:=[]) Tryz.func182 rfl (by kernel_rfl) (n:=22) Tryz.ntmps182 (by simp) (by decide) rfl ?_
  simp[Fld.cells,Typ.cells]
  refine LoopT.round (fun E S=>∃ (i:Nat),(i≤l.length)∧E 2=some (.op 0 0)∧E 1=some (.d (dS s))∧E 5=some (.d (dI i))∧S.B 0=some ([.d (dS dn), .d (argsD l), .d (dS t), .d (.ps (typsCells lt) lt.length), .d (dB lb)])∧(∀ j (hj:j<l.length),j<i→l[j].name≠s)) (upTo 5 l.length) ⟨0,by simp⟩ ?_
  rintro E S hk ⟨i,hi,h2,h1,h5,hB0,hp⟩
  have hn:S.n=22:=by first | (simpa using hk.n)|(have hh:=hk.n;simp[Fld.cells,Typ.cells] at hh;exact hh)
  have hg:S.gl=gl:=by first | (simpa using hk.gl)|(have hh:=hk.gl;simp[Fld.cells,Typ.cells] at hh;exact hh)
  have hmd:S.md=[]:=by first | (simpa using hk.md)|(have hh:=hk.md;simp[Fld.cells,Typ.cells] at hh;exact hh)
  simp[h2,h5,hB0,hn,hg]
  have w:=wrap64 (n:=(i:Int)+1) (by omega) (by omega)
  refine BrT.dec (fun c=>?_) (fun c=>?_)
  · have hi2:i<l.length:=by omega
    have hlen:=args_len l
    have hfit:i*10+10≤l.length*10:=by omega
    have hat:=args_at l hi2
    have hfound:=argI_found hi2 hp
    have hnext:l[i].name≠s→∀ j (hj:j<l.length),j<i+1→l[j].name≠s:=fun hne j hj hji=>by
      by_cases e:j=i
      · subst e;exact hne
      · exact hp j hj (by omega)
    generalize l[i]=a at hat hfound hnext
    obtain⟨nm,ty,has,els⟩:=a
    simp only at hfound hnext
    have hz0:(argsCells l)[i*10]?=some (dS nm):=by
      have e:(((argsCells l).drop (i*10)).take 10)[0]?=some (dS nm):=by rw[hat];rfl
      rw[List.getElem?_take_of_lt (by omega),List.getElem?_drop] at e
      exact e
    have hg0:=(List.getElem?_eq_some_iff.1 hz0).2
    simp[h2,h1,h5,hB0,hn,hg,c,hlen,hg0]
    refine BrT.dec (fun e=>?_) (fun e=>?_)
    · have hz:=hfound e
      simp[h5,hn,e,hz]
    · simp[h2,h1,h5,hB0,hn,w,e]
      exact⟨⟨i+1,hi2,by omega,hnext e⟩,upTo_lt h5 (by simp) hi2⟩
  · have hz:=argI_none fun j hj=>hp j hj (by omega)
    simp[hn,c,hz]
theorem sameT_comm (a b:Typ):sameT a b=sameT b a:=by
  unfold sameT
  exact decide_eq_decide.2 eq_comm
theorem argOld_none {f:List Arg}{a:Arg} (h:argAt f a.name=none):argOldB f a=true:=by unfold argOldB;rw[h]
theorem argOld_some {f:List Arg}{a n:Arg} (h:argAt f a.name=some n):argOldB f a=(!sameT a.ty n.ty || decide (a.has≠n.has)):=by
  unfold argOldB;rw[h,sameT_comm a.ty n.ty]
  simp only[ne_comm]
set_option maxHeartbeats 16000000 in
theorem p_l9Args (o f:Fld) (ho:FldF o) (hf:FldF f):PCall Tryz.prog gl 148 [o.d,f.d] (dB (!argsBrk o.args f.args)):=by
  have hA:=fun s=>p_l9Arg (gl:=gl) f s hf.2.1
  have hB:=fun s=>p_l9Arg (gl:=gl) o s ho.2.1
  obtain⟨on,ol,oty⟩:=o
  obtain⟨fn,fl,fty⟩:=f
  obtain⟨_,hol,ho⟩:=ho
  obtain⟨_,hfl,hf⟩:=hf
  simp only at hA hB hol ho hfl hf ⊢
  obtain⟨r,hr⟩:∃ r,argsBrk ol fl=r:=⟨_,rfl⟩
  rw[hr]
  cases oty with
  | mk ot ot2 ob =>
  cases fty with
  | mk ft ft2 fb =>
  refine PCall.by_ (md:=[]) Tryz.func148 rfl (by kernel_rfl) (n:=90) Tryz.ntmps148 (by simp) (by decide) rfl ?_
  simp[Fld.cells,Typ.cells]
  refine LoopT.round (fun E S=>∃ (i:Nat),(i≤ol.length)∧E 2=some (.op 0 0)∧E 3=some (.op 1 0)∧E 5=some (.d (dI i))∧S.B 0=some ([.d (dS on), .d (argsD ol), .d (dS ot), .d (.ps (typsCells ot2) ot2.length), .d (dB ob)])∧S.B 1=some ([.d (dS fn), .d (argsD fl), .d (dS ft), .d (.ps (typsCells ft2) ft2.length), .d (dB fb)])∧(noUp (argOldB fl) ol i)) (upTo 5 ol.length) ⟨0,by simp;exact noUp_zero _ _⟩ ?_
  rintro E S hk ⟨i,hi,h2,h3,h5,hB0,hB1,hp⟩
  have hn:S.n=90:=by first | (simpa using hk.n)|(have hh:=hk.n;simp[Fld.cells,Typ.cells] at hh;exact hh)
  have hg:S.gl=gl:=by first | (simpa using hk.gl)|(have hh:=hk.gl;simp[Fld.cells,Typ.cells] at hh;exact hh)
  have hmd:S.md=[]:=by first | (simpa using hk.md)|(have hh:=hk.md;simp[Fld.cells,Typ.cells] at hh;exact hh)
  simp[h2,h5,hB0,hn,hg]
  have w:=wrap64 (n:=(i:Int)+1) (by omega) (by omega)
  refine BrT.dec (fun c=>?_) (fun c=>?_)
  · have hi2:i<ol.length:=by omega
    have hlen:=args_len ol
    have hfit:i*10+10≤ol.length*10:=by omega
    have hat:=args_at ol hi2
    have hT:=ho _ (List.getElem_mem hi2)
    have hbad:argOldB fl ol[i]=true→r=true:=fun h=>by rw[← hr];unfold argsBrk;rw[any_at hi2 h];rfl
    have hok:argOldB fl ol[i]=false→noUp (argOldB fl) ol (i+1):=fun h=>noUp_next hi2 hp h
    have hAt:=argI_at fl ol[i].name
    have hA2:=hA ol[i].name
    generalize ol[i]=a at hat hT hbad hok hAt hA2
    obtain⟨nm,ty,has,els⟩:=a
    cases ty with
    | mk t lt b =>
    cases els with
    | mk vk vn vs vl vns =>
    simp only[Arg.cells,Typ.cells,Val.cells,List.cons_append,List.nil_append] at hat hAt hA2
    have hat_0:=row_get0 hat (by decide) rfl
    have hat_0'':=(List.getElem?_eq_some_iff.1 hat_0).2
    have hat_0':i*10<_:=Nat.lt_of_lt_of_le (by omega) hfit
    have hat_1_3:=row_sub hat 1 3 (by decide)
    have hat_1_3':i*10+1+3≤_:=Nat.le_trans (by omega) hfit
    have hat_4:=row_get hat 4 (by decide) rfl
    have hat_4'':=(List.getElem?_eq_some_iff.1 hat_4).2
    have hat_4':i*10+4<_:=Nat.lt_of_lt_of_le (by omega) hfit
    simp[h2,h3,h5,hB0,hB1,hn,c,hat_0',hat_0'',hlen]
    repeat refine⟨DrawT.mk (by kernel_rfl),?_⟩
    refine CallT.p0 (hA2) (by first | rfl | (simp;done)|(simp[hg];done)) (by first | rfl | (simp;done)|(simp;rfl)|(simp[Fld.cells,Typ.cells,h2,h3,h5,hB0,hB1,hn,hg,hmd,c,hat_0,hat_0',hat_0'',hat_1_3,hat_1_3',hat_4,hat_4',hat_4'',hi2,w,hlen,hfit];done)) ?_
    simp[hn]
    rcases hAt with ⟨hz,hx⟩ | ⟨j,hj,hz,hx⟩
    · have hq:=hbad (argOld_none hx)
      simp[hn,hz,hq]
      exact DrawT.mk (by kernel_rfl)
    · rw[argOld_some hx] at hbad hok
      have hflen:=args_len fl
      have hffit:j*10+10≤fl.length*10:=by omega
      have hfat:=args_at fl hj
      have hTf:=hf _ (List.getElem_mem hj)
      generalize fl[j]=n at hfat hbad hok hTf
      obtain⟨nn,nty,nhas,nels⟩:=n
      have hTT:=p_l9Type (gl:=gl) (.mk t lt b) nty hT.1 hTf.1
      cases nty with
      | mk nt nlt nb =>
      cases nels with
      | mk vk2 vn2 vs2 vl2 vns2 =>
      simp only[Arg.cells,Typ.cells,Val.cells,List.cons_append,List.nil_append] at hfat
      have hfat_0:=row_get0 hfat (by decide) rfl
      have hfat_0'':=(List.getElem?_eq_some_iff.1 hfat_0).2
      have hfat_0':j*10<_:=Nat.lt_of_lt_of_le (by omega) hffit
      have hfat_1_3:=row_sub hfat 1 3 (by decide)
      have hfat_1_3':j*10+1+3≤_:=Nat.le_trans (by omega) hffit
      have hfat_4:=row_get hfat 4 (by decide) rfl
      have hfat_4'':=(List.getElem?_eq_some_iff.1 hfat_4).2
      have hfat_4':j*10+4<_:=Nat.lt_of_lt_of_le (by omega) hffit
      have hj0:¬ (j:Int)<0:=by omega
      simp[h2,h3,h5,hB0,hB1,hn,c,hat_1_3,hat_1_3',hlen,hfat_1_3,hfat_1_3',hj,hflen,hz,hj0]
      refine⟨DrawT.mk (by kernel_rfl),?_⟩
      repeat refine⟨DrawT.mk (by kernel_rfl),?_⟩
      refine CallT.p0 (hTT) (by first | rfl | (simp;done)|(simp[hg];done)) (by first | rfl | (simp;done)|(simp;rfl)|(simp[Fld.cells,Typ.cells,h2,h3,h5,hB0,hB1,hn,hg,hmd,c,hat_0,hat_0',hat_0'',hat_1_3,hat_1_3',hat_4,hat_4',hat_4'',hi2,w,hlen,hfit,hfat_0,hfat_0',hfat_0'',hfat_1_3,hfat_1_3',hfat_4,hfat_4',hfat_4'',hj,hflen,hffit];done)) ?_
      simp[hn]
      cases hs:sameT (.mk t lt b) (.mk nt nlt nb)
      · rw[hs] at hbad
        have hq:=hbad rfl
        simp[hn,hq]
      · rw[hs] at hbad hok
        by_cases e2:has=nhas
        · have hq:=hok (by simp[e2])
          simp[h2,h3,h5,hB0,hB1,hn,hg,c,hat_4',hat_4'',w,hlen,hfat_4',hfat_4'',hj,hflen,e2]
          exact⟨⟨i+1,hi2,by omega,hq⟩,upTo_lt h5 (by simp) hi2⟩
        · have hq:=hbad (by simp[e2])
          have e3:(has == nhas)=false:=by simpa using e2
          simp[h2,h3,h5,hB0,hB1,hn,hg,c,hat_4',hat_4'',hlen,hfat_4',hfat_4'',hj,hflen,e3,hq]
  · have hi3:i=ol.length:=by omega
    subst hi3
    have hno:=noUp_all hp
    simp[hn,c]
    refine LoopT.round (fun E S=>∃ (k:Nat),(k≤fl.length)∧E 2=some (.op 0 0)∧E 3=some (.op 1 0)∧E 7=some (.d (dI k))∧S.B 0=some ([.d (dS on), .d (argsD ol), .d (dS ot), .d (.ps (typsCells ot2) ot2.length), .d (dB ob)])∧S.B 1=some ([.d (dS fn), .d (argsD fl), .d (dS ft), .d (.ps (typsCells ft2) ft2.length), .d (dB fb)])∧(noUp (argNewB ol) fl k)) (upTo 7 fl.length) ⟨0,by simp[h2,h3,hB0,hB1];exact noUp_zero _ _⟩ ?_
    rintro E S hk ⟨k,hk2,h2,h3,h7,hB0,hB1,hp2⟩
    have hn:S.n=90:=by first | (simpa using hk.n)|(have hh:=hk.n;simp[hn] at hh;exact hh)
    have hg:S.gl=gl:=by first | (simpa using hk.gl)|(have hh:=hk.gl;simp[hg] at hh;exact hh)
    have hmd:S.md=[]:=by first | (simpa using hk.md)|(have hh:=hk.md;simp[hmd] at hh;exact hh)
    simp[h3,h7,hB1,hn,hg]
    have w:=wrap64 (n:=(k:Int)+1) (by omega) (by omega)
    refine BrT.dec (fun c2=>?_) (fun c2=>?_)
    · have hk3:k<fl.length:=by omega
      have hlen:=args_len fl
      have hfit:k*10+10≤fl.length*10:=by omega
      have hat:=args_at fl hk3
      have hbad:argNewB ol fl[k]=true→r=true:=fun h=>by rw[← hr];unfold argsBrk;rw[any_at hk3 h,Bool.or_true]
      have hok:argNewB ol fl[k]=false→noUp (argNewB ol) fl (k+1):=fun h=>noUp_next hk3 hp2 h
      have hAt:=argI_at ol fl[k].name
      have hB2:=hB fl[k].name
      generalize fl[k]=a at hat hbad hok hAt hB2
      obtain⟨nm,ty,has,els⟩:=a
      unfold argNewB at hbad hok
      cases ty with
      | mk t lt b =>
      cases els with
      | mk vk vn vs vl vns =>
      simp only[Arg.cells,Typ.cells,Val.cells,List.cons_append,List.nil_append] at hat hAt hB2
      simp only[mustT] at hbad hok
      have hat_0:=row_get0 hat (by decide) rfl
      have hat_0'':=(List.getElem?_eq_some_iff.1 hat_0).2
      have hat_0':k*10<_:=Nat.lt_of_lt_of_le (by omega) hfit
      have hat_3:=row_get hat 3 (by decide) rfl
      have hat_3'':=(List.getElem?_eq_some_iff.1 hat_3).2
      have hat_3':k*10+3<_:=Nat.lt_of_lt_of_le (by omega) hfit
      have hat_4:=row_get hat 4 (by decide) rfl
      have hat_4'':=(List.getElem?_eq_some_iff.1 hat_4).2
      have hat_4':k*10+4<_:=Nat.lt_of_lt_of_le (by omega) hfit
      have hat3:(argsCells fl)[k*10+1+2]?=some (dB b):=hat_3
      simp[h2,h3,h7,hB0,hB1,hn,c2,hat_0',hat_0'',hlen]
      refine⟨DrawT.mk (by kernel_rfl),?_⟩
      repeat refine⟨DrawT.mk (by kernel_rfl),?_⟩
      refine CallT.p0 (hB2) (by first | rfl | (simp;done)|(simp[hg];done)) (by first | rfl | (simp;done)|(simp;rfl)|(simp[Fld.cells,Typ.cells,h2,h3,h5,hB0,hB1,hn,hg,hmd,c,h2,h3,h7,hB0,hB1,hn,hg,hmd,c2,hat_0,hat_0',hat_0'',hat_3,hat_3',hat_3'',hat_4,hat_4',hat_4'',hk3,w,hlen,hfit,hat3];done)) ?_
      simp[hn]
      rcases hAt with ⟨hz,hx⟩ | ⟨j,hj,hz,hx⟩
      · rw[hx] at hbad hok
        cases b
        · have hq:=hok (by simp)
          simp[h2,h3,h7,hB0,hB1,hn,c2,hat_3',hat_3'',w,hlen,hz]
          exact⟨⟨k+1,hk3,by omega,hq⟩,upTo_lt h7 (by simp) hk3⟩
        · cases has
          · have hq:=hbad rfl
            simp[h3,h7,hB1,hn,c2,hat_3',hat_3'',hat_4',hat_4'',hlen,hz,hq]
          · have hq:=hok rfl
            simp[h2,h3,h7,hB0,hB1,hn,c2,hat_3',hat_3'',hat_4',hat_4'',w,hlen,hz]
            exact⟨⟨k+1,hk3,by omega,hq⟩,upTo_lt h7 (by simp) hk3⟩
      · rw[hx] at hok
        have hq:=hok rfl
        have hj0:¬ (j:Int)<0:=by omega
        simp[h2,h3,h7,hB0,hB1,hn,w,hz,hj0]
        exact⟨⟨k+1,hk3,by omega,hq⟩,upTo_lt h7 (by simp) hk3⟩
    · have hk3:k=fl.length:=by omega
      subst hk3
      have hno2:=noUp_all hp2
      have hq:r=false:=by rw[← hr];unfold argsBrk;rw[hno,hno2];rfl
      simp[hn,c2,hq]
abbrev Gr:=Int×ByteArray×ByteArray
def grCells (g:Gr):List D:=[dI g.1,dS g.2.1,dS g.2.2]
def grsCells (l:List Gr):List D:=l.flatMap grCells
abbrev grsD (l:List Gr):D:=.ps (grsCells l) l.length
@[simp] theorem grs_nil:grsCells []=[]:=rfl
@[simp] theorem grs_app (a b:List Gr):grsCells (a++b)=grsCells a++grsCells b:=by simp[grsCells]
@[simp] theorem grs_len (l:List Gr):(grsCells l).length=l.length*3:=row_len (enc:=grCells) (fun _=>rfl) l
def AccG (S0 S:St) (X:SV) (k:List Gr):Prop:=(k=[]∧X=.fl [] 0)∨∃ q,S0.nx≤q∧q<S.nx∧X=.tp q 0 (grsCells k) k.length∧S.T q=some (k.length,3)
theorem AccG.nil {S0 S:St}:AccG S0 S (.fl [] 0) []:=.inl ⟨rfl,rfl⟩
theorem AccG.toD {S0 S:St}{X:SV}{k:List Gr} (h:AccG S0 S X k):X.toD=some (grsD k):=by
  rcases h with ⟨rfl,rfl⟩ | ⟨q,_,_,rfl,_⟩<;>rfl
theorem AccG.frz {S0 S:St}{X:SV}{k:List Gr}{B:Nat→Option (List SV)}{n:Nat} (h:AccG S0 S X k):Go.Sh.frz B (n+1) X=some (grsD k):=by
  rcases h with ⟨rfl,rfl⟩ | ⟨q,_,_,rfl,_⟩<;>rfl
theorem AccG.mono {S0 S S':St}{X:SV}{k:List Gr} (h:AccG S0 S X k) (hn:S.nx≤S'.nx) (hT:∀ i,i<S.nx→S'.T i=S.T i):AccG S0 S' X k :=
  h.imp id fun ⟨q,h1,h2,h3,h4⟩=>⟨q,h1,by omega,h3,(hT q h2).trans h4⟩
theorem AccG.add {P:Program}{S0 S:St}{X:SV}{k l:List Gr}{id:Nat}{dst:Option Nat}{T e:TypeId}{by_:Nat} (h:AccG S0 S X k) (hT:appOf P T=some (e,3,by_)) (hmd:S.md=[]) (hid:S0.nx≤id) (hid2:id<S.nx) (hb:appBound k.length l.length by_) {t:SV} (hr:rowS t=some (grsCells l,l.length)) :
    ∃ X' E',evalAppend P S id dst T X t=some (X',E')∧AccG S0 (S.app id E') X' (k++l)∧(S.app id E').B=S.B∧(S.app id E').nx=S.nx∧(S.app id E').n=S.n∧(S.app id E').gl=S.gl∧(S.app id E').md=S.md∧∀ i,i<S0.nx→(S.app id E').T i=S.T i:=by
  rcases h with ⟨rfl,rfl⟩ | ⟨q,h1,h2,rfl,h3⟩
  · by_cases hl:l.length=0
    · refine⟨.fl [] 0, .no,?_, .inl ⟨by simp[List.eq_nil_of_length_eq_zero hl],rfl⟩,rfl,rfl,rfl,rfl,rfl,fun _ _=>rfl⟩
      rw[evalAppend_fl,hr,hT]
      simp[appFl,hl]
    · refine⟨.tp id 0 (grsCells l) l.length, .tip id l.length 3,?_, .inr ⟨id,hid,hid2,by simp,by simp⟩,rfl,rfl,rfl,rfl,rfl,fun i hi=>?_⟩
      · rw[evalAppend_fl,hr,hT,hmd]
        have hl2:¬ l=[]:=fun e=>hl (by rw[e];rfl)
        have hb:appBound 0 l.length by_:=hb
        simp[appFl,hl,onlyIf,hb]
      · simp;omega
  · refine⟨.tp q 0 (grsCells (k++l)) (k++l).length, .tip q (k.length+l.length) 3,?_, .inr ⟨q,h1,h2,rfl,by simp⟩,rfl,rfl,rfl,rfl,rfl,fun i hi=>?_⟩
    · rw[evalAppend_tp,hr,hT]
      simp[appTp,onlyIf,h3,hb]
    · simp;omega
theorem OpT_addG {P:Program}{S0 S1 S:St}{X:SV}{k l:List Gr}{id:Nat}{dst:Option Nat}{T e:TypeId}{by_:Nat}{K:Bool→SV→Eff→Prop} (h:AccG S0 S1 X k) (hn:S1.nx≤S.nx) (hTT:∀ i,i<S1.nx→S.T i=S1.T i) (hT:appOf P T=some (e,3,by_)) (hmd:S.md=[]) (hid:S0.nx≤id) (hid2:id<S.nx) (hb:appBound k.length l.length by_) {t:SV} (hr:rowS t=some (grsCells l,l.length))
    (hK:∀ X' S' E',S.app id E'=S'→AccG S0 S' X' (k++l)→SameB S S'→(∀ i,i<S0.nx→S'.T i=S.T i)→K true X' E'):OpT (evalAppend P S id dst T X t) K:=by
  obtain⟨X',E',h1,h2,h3,h4,h5,h6,h7,h8⟩:=(h.mono hn hTT).add (id:=id) (dst:=dst) (l:=l) hT hmd hid hid2 hb hr
  rw[h1]
  exact hK X' _ E' rfl h2 ⟨h3,h4,h5,h6,h7⟩ h8
theorem fm_next {α β:Type} (f:α→Option β) {l:List α}{i:Nat} (hi:i<l.length):(l.take (i+1)).filterMap f=(l.take i).filterMap f++(f l[i]).toList:=by
  rw[List.take_succ_eq_append_getElem hi,List.filterMap_append]
  cases h:f l[i]<;>simp[h]
theorem fm_len {α β:Type} (f:α→Option β) (l:List α) (i:Nat):((l.take i).filterMap f).length≤l.length:=by
  have h1:=List.length_filterMap_le f (l.take i)
  have h2:(l.take i).length≤l.length:=by simp;omega
  omega
def wGone (o n:Def) (s:ByteArray):Option Gr:=if wordGone n.words s then some (6,o.name,s) else none
def wMore (o:Def) (s:ByteArray):Option Gr:=if wordMore o.kind o.words s then some (6,o.name,s) else none
def wordsG (o n:Def):List Gr:=o.words.filterMap (wGone o n)++n.words.filterMap (wMore o)
set_option maxHeartbeats 4000000 in
theorem p_l9Words (o n:Def) (hol:o.words.length≤1048576) (hnl:n.words.length≤1048576):PCall Tryz.prog gl 92 [o.d,n.d] (grsD (wordsG o n)):=by
  have hA:∀ s,PCall Tryz.prog gl 126 [namesD n.words,dS s] (dB (memB s n.words)):=fun s=>p_l2Has n.words s (by omega)
  have hB:∀ s,PCall Tryz.prog gl 126 [namesD o.words,dS s] (dB (memB s o.words)):=fun s=>p_l2Has o.words s (by omega)
  obtain⟨on,ok,of,ow⟩:=o
  obtain⟨nn,nk,nf,nw⟩:=n
  simp only at hA hB hol hnl
  refine PCall.by_ (md:=[]) Tryz.func92 rfl (by kernel_rfl) (n:=69) Tryz.ntmps92 (by simp) (by decide) rfl ?_
  simp[Def.cells]
  refine LoopT.round (fun E S=>∃ (i:Nat) (X:SV),(i≤ow.length)∧E 2=some (.op 0 0)∧E 3=some (.op 1 0)∧E 5=some (X)∧E 6=some (.d (dI i))∧S.B 0=some ([.d (dS on), .d (dI ok), .d (fldsD of), .d (namesD ow)])∧S.B 1=some ([.d (dS nn), .d (dI nk), .d (fldsD nf), .d (namesD nw)])∧(2≤S.nx)∧(AccG (startS gl [] 0) S X ((ow.take i).filterMap (wGone ⟨on,ok,of,ow⟩ ⟨nn,nk,nf,nw⟩)))) (upTo 6 ow.length) ⟨0, .fl [] 0,by simp;exact AccG.nil⟩ ?_
  rintro E S hk ⟨i,X,hi,h2,h3,h5,h6,hB0,hB1,hx,hA9⟩
  have hn:S.n=69:=by first | (simpa using hk.n)|(have hh:=hk.n;simp[Def.cells] at hh;exact hh)
  have hg:S.gl=gl:=by first | (simpa using hk.gl)|(have hh:=hk.gl;simp[Def.cells] at hh;exact hh)
  have hmd:S.md=[]:=by first | (simpa using hk.md)|(have hh:=hk.md;simp[Def.cells] at hh;exact hh)
  simp[h2,h6,hB0,hn,hg]
  have w:=wrap64 (n:=(i:Int)+1) (by omega) (by omega)
  refine BrT.dec (fun c=>?_) (fun c=>?_)
  · have hi2:i<ow.length:=by omega
    have hnx:=fm_next (wGone ⟨on,ok,of,ow⟩ ⟨nn,nk,nf,nw⟩) hi2
    have hkl:=fm_len (wGone ⟨on,ok,of,ow⟩ ⟨nn,nk,nf,nw⟩) ow i
    obtain⟨s,hs⟩:∃ s,ow[i]=s:=⟨_,rfl⟩
    rw[hs] at hnx
    generalize (ow.take i).filterMap (wGone ⟨on,ok,of,ow⟩ ⟨nn,nk,nf,nw⟩)=k at hA9 hnx hkl
    have hA2:=hA s
    simp[h2,h3,h6,hB0,hB1,hn,c,hs]
    refine⟨DrawT.mk (by kernel_rfl),?_⟩
    repeat refine⟨DrawT.mk (by kernel_rfl),?_⟩
    refine CallT.p0 (hA2) (by first | rfl | (simp;done)|(simp[hg];done)) (by first | rfl | (simp;done)|(simp;rfl)|(simp[Def.cells,h2,h3,h5,h6,hB0,hB1,hn,hg,hmd,c,hi2,w,hs];done)) ?_
    simp[hn]
    rw[show wGone ⟨on,ok,of,ow⟩ ⟨nn,nk,nf,nw⟩ s=(if (!memB s nw)=true then some (6,on,s) else none) from rfl] at hnx
    cases hm:memB s nw
    · rw[hm] at hnx
      simp[h2,h5,h6,hB0,hn,hmd,c,hs]
      refine⟨DrawT.mk (by kernel_rfl),?_⟩
      refine OpT_addG (l:=[(6,on,s)]) (e:=63) (by_:=40) hA9 (by first | omega | (simp;done)|(simp;omega)) (by intro _ _;rfl) (by kernel_rfl) (by simp[hmd]) (by first | omega | (simp;done)|(simp;omega)) (by first | omega | (simp;done)|(simp;omega)) (by unfold appBound;simp only[List.length_cons,List.length_nil];omega) (by first | rfl | (simp;done)) ?_
      intro X2 S2 E9 hE9 S2_A S2_B S2_T
      rw[hE9]
      have S2_b:=S2_B.B
      simp at S2_b
      have S2_nx:=S2_B.nx
      simp at S2_nx
      have S2_n:=S2_B.n
      simp at S2_n
      have S2_gl:=S2_B.gl
      simp at S2_gl
      have S2_md:=S2_B.md
      simp at S2_md
      simp[h2,h3,h6,hB0,hB1,hn,w,S2_b,S2_nx,S2_n]
      exact⟨⟨i+1,hi2,by omega,by rw[hnx];exact S2_A.mono (by simp) (fun _ _=>rfl)⟩,upTo_lt h6 (by simp) hi2⟩
    · rw[hm] at hnx
      simp[h2,h3,h5,h6,hB0,hB1,hn,w]
      exact⟨⟨i+1,hi2,by omega,by rw[hnx,show (if (!true)=true then some ((6:Int),on,s) else none).toList=([]:List Gr) from rfl,List.append_nil];exact hA9.mono (by simp<;>omega) (fun _ _=>rfl)⟩,upTo_lt h6 (by simp) hi2⟩
  · have hi3:i=ow.length:=by omega
    subst hi3
    rw[List.take_length] at hA9
    have hk0:=List.length_filterMap_le (wGone ⟨on,ok,of,ow⟩ ⟨nn,nk,nf,nw⟩) ow
    obtain⟨K0,hK0⟩:∃ K0,ow.filterMap (wGone ⟨on,ok,of,ow⟩ ⟨nn,nk,nf,nw⟩)=K0:=⟨_,rfl⟩
    rw[hK0] at hA9 hk0
    simp[hn,c]
    refine LoopT.round (fun E S=>∃ (j:Nat) (Y:SV),(j≤nw.length)∧E 2=some (.op 0 0)∧E 3=some (.op 1 0)∧E 5=some (Y)∧E 7=some (.d (dI j))∧S.B 0=some ([.d (dS on), .d (dI ok), .d (fldsD of), .d (namesD ow)])∧S.B 1=some ([.d (dS nn), .d (dI nk), .d (fldsD nf), .d (namesD nw)])∧(2≤S.nx)∧(AccG (startS gl [] 0) S Y (K0++(nw.take j).filterMap (wMore ⟨on,ok,of,ow⟩)))) (upTo 7 nw.length) ⟨0,X,by simp[h2,h3,h5,hB0,hB1];exact hA9.mono (by simp<;>omega) (fun _ _=>rfl)⟩ ?_
    rintro E S hk ⟨j,Y,hj,h2,h3,h5,h7,hB0,hB1,hx2,hA8⟩
    have hn:S.n=69:=by first | (simpa using hk.n)|(have hh:=hk.n;simp[hn] at hh;exact hh)
    have hg:S.gl=gl:=by first | (simpa using hk.gl)|(have hh:=hk.gl;simp[hg] at hh;exact hh)
    have hmd:S.md=[]:=by first | (simpa using hk.md)|(have hh:=hk.md;simp[hmd] at hh;exact hh)
    simp[h3,h7,hB1,hn,hg]
    have w:=wrap64 (n:=(j:Int)+1) (by omega) (by omega)
    refine BrT.dec (fun c2=>?_) (fun c2=>?_)
    · have hj2:j<nw.length:=by omega
      have hnx:=fm_next (wMore ⟨on,ok,of,ow⟩) hj2
      have hkl:=fm_len (wMore ⟨on,ok,of,ow⟩) nw j
      obtain⟨s,hs⟩:∃ s,nw[j]=s:=⟨_,rfl⟩
      rw[hs] at hnx
      generalize (nw.take j).filterMap (wMore ⟨on,ok,of,ow⟩)=k at hA8 hnx hkl
      rw[show wMore ⟨on,ok,of,ow⟩ s=(if (decide (ok=4) && !memB s ow)=true then some (6,on,s) else none) from rfl] at hnx
      have hB2:=hB s
      simp[h2,hB0,hn,c2]
      refine⟨DrawT.mk (by kernel_rfl),?_⟩
      by_cases hk4:ok=4
      · subst hk4
        simp[h2,h3,h7,hB0,hB1,hn,c2,hs]
        repeat refine⟨DrawT.mk (by kernel_rfl),?_⟩
        refine CallT.p0 (hB2) (by first | rfl | (simp;done)|(simp[hg];done)) (by first | rfl | (simp;done)|(simp;rfl)|(simp[Def.cells,h2,h3,h5,h6,hB0,hB1,hn,hg,hmd,c,h2,h3,h5,h7,hB0,hB1,hn,hg,hmd,c2,hj2,w,hs];done)) ?_
        simp[hn]
        cases hm:memB s ow
        · rw[hm] at hnx
          simp[h2,h3,h5,h7,hB0,hB1,hn,hmd,c2,hs]
          refine⟨DrawT.mk (by kernel_rfl),?_⟩
          refine OpT_addG (l:=[(6,on,s)]) (e:=63) (by_:=40) hA8 (by first | omega | (simp;done)|(simp;omega)) (by intro _ _;rfl) (by kernel_rfl) (by simp[hmd]) (by first | omega | (simp;done)|(simp;omega)) (by first | omega | (simp;done)|(simp;omega)) (by unfold appBound;simp only[List.length_append,List.length_cons,List.length_nil];omega) (by first | rfl | (simp;done)) ?_
          intro X2 S2 E9 hE9 S2_A S2_B S2_T
          rw[hE9]
          have S2_b:=S2_B.B
          simp at S2_b
          have S2_nx:=S2_B.nx
          simp at S2_nx
          have S2_n:=S2_B.n
          simp at S2_n
          have S2_gl:=S2_B.gl
          simp at S2_gl
          have S2_md:=S2_B.md
          simp at S2_md
          simp[h2,h3,h7,hB0,hB1,hn,w,S2_b,S2_nx,S2_n]
          exact⟨⟨j+1,hj2,by omega,by rw[hnx,show (if (decide ((4:Int)=4) && !false)=true then some ((6:Int),on,s) else none).toList=[((6:Int),on,s)] from rfl, ← List.append_assoc];exact S2_A.mono (by simp) (fun _ _=>rfl)⟩,upTo_lt h7 (by simp) hj2⟩
        · rw[hm] at hnx
          simp[h2,h3,h5,h7,hB0,hB1,hn,w]
          exact⟨⟨j+1,hj2,by omega,by rw[hnx,show (if (decide ((4:Int)=4) && !true)=true then some ((6:Int),on,s) else none).toList=([]:List Gr) from rfl,List.append_nil];exact hA8.mono (by simp<;>omega) (fun _ _=>rfl)⟩,upTo_lt h7 (by simp) hj2⟩
      · have e0:(if (decide (ok=4) && !memB s ow)=true then some ((6:Int),on,s) else none).toList=([]:List Gr):=by simp[hk4]
        rw[e0,List.append_nil] at hnx
        simp[h2,h3,h5,h7,hB0,hB1,hn,w,hk4]
        exact⟨⟨j+1,hj2,by omega,by rw[hnx];exact hA8.mono (by simp<;>omega) (fun _ _=>rfl)⟩,upTo_lt h7 (by simp) hj2⟩
    · have hj3:j=nw.length:=by omega
      subst hj3
      rw[List.take_length] at hA8
      simp[h5,hn,c2]
      rw[show wordsG ⟨on,ok,of,ow⟩ ⟨nn,nk,nf,nw⟩=K0++nw.filterMap (wMore ⟨on,ok,of,ow⟩) from by rw[← hK0];rfl]
      exact hA8.frz
def fBrk (o n:Def) (f:Fld):Option Gr:=if codeF n.flds f=0 then none else some (codeF n.flds f,o.name,f.name)
def fNeed (o:Def) (f:Fld):Option Gr:=if fldNeed o.kind o.flds f then some (3,o.name,f.name) else none
def fieldsG (o n:Def):List Gr:=o.flds.filterMap (fBrk o n)++n.flds.filterMap (fNeed o)
theorem fBrk_of {o n:Def}{f:Fld}{k:Int} (h:codeF n.flds f=k):fBrk o n f=if k=0 then none else some (k,o.name,f.name):=by unfold fBrk;rw[h]
theorem codeF_none {l:List Fld}{f:Fld} (h:fldAt l f.name=none):codeF l f=3:=by unfold codeF;rw[h]
theorem codeF_some {l:List Fld}{f m:Fld} (h:fldAt l f.name=some m):codeF l f=if sameT f.ty m.ty then (if argsBrk f.args m.args then 5 else 0) else 4:=by unfold codeF;rw[h,sameT_comm]
set_option maxHeartbeats 16000000 in
theorem p_l9Fields (o n:Def) (hol:o.flds.length≤1048576) (hnl:n.flds.length≤1048576) (hof:∀ f∈o.flds,FldF f) (hnf:∀ f∈n.flds,FldF f):PCall Tryz.prog gl 91 [o.d,n.d] (grsD (fieldsG o n)):=by
  have hA:∀ s,PCall Tryz.prog gl 146 [n.d,dS s] (dI (fldI n.flds s)):=fun s=>p_l2Field n s (by omega)
  have hB:∀ s,PCall Tryz.prog gl 146 [o.d,dS s] (dI (fldI o.flds s)):=fun s=>p_l2Field o s (by omega)
  obtain⟨on,ok,of,ow⟩:=o
  obtain⟨nn,nk,nf,nw⟩:=n
  simp only at hA hB hol hnl hof hnf
  refine PCall.by_ (md:=[]) Tryz.func91 rfl (by kernel_rfl) (n:=111) Tryz.ntmps91 (by simp) (by decide) rfl ?_
  simp[Def.cells]
  refine LoopT.round (fun E S=>∃ (i:Nat) (X:SV),(i≤of.length)∧E 2=some (.op 0 0)∧E 3=some (.op 1 0)∧E 5=some (X)∧E 6=some (.d (dI i))∧S.B 0=some ([.d (dS on), .d (dI ok), .d (fldsD of), .d (namesD ow)])∧S.B 1=some ([.d (dS nn), .d (dI nk), .d (fldsD nf), .d (namesD nw)])∧(2≤S.nx)∧(AccG (startS gl [] 0) S X ((of.take i).filterMap (fBrk ⟨on,ok,of,ow⟩ ⟨nn,nk,nf,nw⟩)))) (upTo 6 of.length) ⟨0, .fl [] 0,by simp;exact AccG.nil⟩ ?_
  rintro E S hk ⟨i,X,hi,h2,h3,h5,h6,hB0,hB1,hx,hA9⟩
  have hn:S.n=111:=by first | (simpa using hk.n)|(have hh:=hk.n;simp[Def.cells] at hh;exact hh)
  have hg:S.gl=gl:=by first | (simpa using hk.gl)|(have hh:=hk.gl;simp[Def.cells] at hh;exact hh)
  have hmd:S.md=[]:=by first | (simpa using hk.md)|(have hh:=hk.md;simp[Def.cells] at hh;exact hh)
  simp[h2,h6,hB0,hn,hg]
  have w:=wrap64 (n:=(i:Int)+1) (by omega) (by omega)
  refine BrT.dec (fun c=>?_) (fun c=>?_)
  · have hi2:i<of.length:=by omega
    have hlen:=flds_len of
    have hfit:i*5+5≤of.length*5:=by omega
    have hat:=flds_at of hi2
    have hFf:=hof _ (List.getElem_mem hi2)
    have hnx:=fm_next (fBrk ⟨on,ok,of,ow⟩ ⟨nn,nk,nf,nw⟩) hi2
    have hkl:=fm_len (fBrk ⟨on,ok,of,ow⟩ ⟨nn,nk,nf,nw⟩) of i
    generalize (of.take i).filterMap (fBrk ⟨on,ok,of,ow⟩ ⟨nn,nk,nf,nw⟩)=k at hA9 hnx hkl
    generalize of[i]=f at hat hFf hnx
    have hA2:=hA f.name
    have hAt:=fldI_at nf f.name
    obtain⟨fn,fa,ft⟩:=f
    have n1:¬ 0=S.nx+5+5:=by omega
    have n2:¬ 1=S.nx+5+5:=by omega
    cases hft:ft with
    | mk t lt lb =>
    rw[hft] at hat hFf hnx
    simp only[Fld.cells,Typ.cells] at hat hA2 hAt
    simp[h2,h3,h6,hB0,hB1,hn,c,hlen,hfit,hat]
    repeat refine⟨DrawT.mk (by kernel_rfl),?_⟩
    refine CallT.p0 (hA2) (by first | rfl | (simp;done)|(simp[hg];done)) (by first | rfl | (simp;done)|(simp;rfl)|(simp[Def.cells,h2,h3,h5,h6,hB0,hB1,hn,hg,hmd,c,hi2,w,hlen,hfit,hat,n1,n2];done)) ?_
    simp[hn]
    rcases hAt with ⟨hz,hx2⟩ | ⟨j,hj,hz,hx2⟩
    · rw[fBrk_of (codeF_none hx2)] at hnx
      simp[h2,h5,hB0,hn,hmd,hz]
      refine OpT_addG (l:=[(3,on,fn)]) (e:=63) (by_:=40) hA9 (by first | omega | (simp;done)|(simp;omega)) (by intro _ _;rfl) (by kernel_rfl) (by simp[hmd]) (by first | omega | (simp;done)|(simp;omega)) (by first | omega | (simp;done)|(simp;omega)) (by unfold appBound;simp only[List.length_cons,List.length_nil];omega) (by first | rfl | (simp;done)) ?_
      intro X2 S2 E9 hE9 S2_A S2_B S2_T
      rw[hE9]
      have S2_b:=S2_B.B
      simp at S2_b
      have S2_nx:=S2_B.nx
      simp at S2_nx
      have S2_n:=S2_B.n
      simp at S2_n
      have S2_gl:=S2_B.gl
      simp at S2_gl
      have S2_md:=S2_B.md
      simp at S2_md
      simp[h2,h3,h6,hB0,hB1,hn,w,S2_b,S2_nx,S2_n]
      exact⟨⟨i+1,hi2,by omega,by rw[hnx];exact S2_A.mono (by simp) (fun _ _=>rfl)⟩,upTo_lt h6 (by simp) hi2⟩
    · have hj0:¬ (j:Int)<0:=by omega
      have hcs:=codeF_some (f:=⟨fn,fa, .mk t lt lb⟩) hx2
      have hmF:=hnf _ (List.getElem_mem hj)
      have hmlen:=flds_len nf
      have hmfit:j*5+5≤nf.length*5:=by omega
      have hmat:=flds_at nf hj
      generalize nf[j]=m at hmF hmat hcs
      obtain⟨mn,ma,mt⟩:=m
      have hTT:=p_l9Type (gl:=gl) (.mk t lt lb) mt hFf.1.1 hmF.1.1
      have hAA:=p_l9Args (gl:=gl) ⟨fn,fa, .mk t lt lb⟩ ⟨mn,ma,mt⟩ hFf hmF
      simp only at hcs hAA
      cases mt with
      | mk mt0 mlt mlb =>
      simp only[Fld.cells,Typ.cells] at hmat
      have hmat_2_3:=row_sub hmat 2 3 (by decide)
      have hmat_2_3':j*5+2+3≤_:=Nat.le_trans (by omega) hmfit
      simp[h3,hB1,hn,hmat_2_3,hmat_2_3',hj,hmlen,hz,hj0]
      refine⟨DrawT.mk (by kernel_rfl),?_⟩
      repeat refine⟨DrawT.mk (by kernel_rfl),?_⟩
      refine CallT.p0 (hTT) (by first | rfl | (simp;done)|(simp[hg];done)) (by first | rfl | (simp;done)|(simp;rfl)|(simp[Def.cells,h2,h3,h5,h6,hB0,hB1,hn,hg,hmd,c,hi2,w,hlen,hfit,hat,n1,n2,hmat_2_3,hmat_2_3',hj,hmlen,hmfit,hmat];done)) ?_
      simp[hn]
      cases hs:sameT (.mk t lt lb) (.mk mt0 mlt mlb)
      · rw[hs] at hcs
        rw[fBrk_of hcs] at hnx
        simp[h2,h5,hB0,hn,hmd]
        refine OpT_addG (l:=[(4,on,fn)]) (e:=63) (by_:=40) hA9 (by first | omega | (simp;done)|(simp;omega)) (by intro _ _;rfl) (by kernel_rfl) (by simp[hmd]) (by first | omega | (simp;done)|(simp;omega)) (by first | omega | (simp;done)|(simp;omega)) (by unfold appBound;simp only[List.length_cons,List.length_nil];omega) (by first | rfl | (simp;done)) ?_
        intro X2 S2 E9 hE9 S2_A S2_B S2_T
        rw[hE9]
        have S2_b:=S2_B.B
        simp at S2_b
        have S2_nx:=S2_B.nx
        simp at S2_nx
        have S2_n:=S2_B.n
        simp at S2_n
        have S2_gl:=S2_B.gl
        simp at S2_gl
        have S2_md:=S2_B.md
        simp at S2_md
        simp[h2,h3,h6,hB0,hB1,hn,w,S2_b,S2_nx,S2_n]
        exact⟨⟨i+1,hi2,by omega,by rw[hnx];exact S2_A.mono (by simp) (fun _ _=>rfl)⟩,upTo_lt h6 (by simp) hi2⟩
      · rw[hs] at hcs
        simp[h3,hB1,hn,hmat_2_3',hj,hmlen,hmat]
        refine⟨DrawT.mk (by kernel_rfl),?_⟩
        repeat refine⟨DrawT.mk (by kernel_rfl),?_⟩
        refine CallT.p0 (hAA) (by first | rfl | (simp;done)|(simp[hg];done)) (by first | rfl | (simp;done)|(simp;rfl)|(simp[Def.cells,h2,h3,h5,h6,hB0,hB1,hn,hg,hmd,c,hi2,w,hlen,hfit,hat,n1,n2,hmat_2_3,hmat_2_3',hj,hmlen,hmfit,hmat];done)) ?_
        simp[hn]
        cases hb:argsBrk fa ma
        · rw[hb] at hcs
          rw[fBrk_of hcs,show (if (if true=true then if false=true then (5:Int) else 0 else 4)=0 then none else some ((if true=true then if false=true then (5:Int) else 0 else 4),on,fn)).toList=([]:List Gr) from rfl,List.append_nil] at hnx
          simp[h2,h3,h5,h6,hB0,hB1,hn,w]
          exact⟨⟨i+1,hi2,by omega,by rw[hnx];exact hA9.mono (by simp<;>omega) (fun _ _=>rfl)⟩,upTo_lt h6 (by simp) hi2⟩
        · rw[hb] at hcs
          rw[fBrk_of hcs] at hnx
          simp[h2,h5,hB0,hn,hmd]
          refine OpT_addG (l:=[(5,on,fn)]) (e:=63) (by_:=40) hA9 (by first | omega | (simp;done)|(simp;omega)) (by intro _ _;rfl) (by kernel_rfl) (by simp[hmd]) (by first | omega | (simp;done)|(simp;omega)) (by first | omega | (simp;done)|(simp;omega)) (by unfold appBound;simp only[List.length_cons,List.length_nil];omega) (by first | rfl | (simp;done)) ?_
          intro X2 S2 E9 hE9 S2_A S2_B S2_T
          rw[hE9]
          have S2_b:=S2_B.B
          simp at S2_b
          have S2_nx:=S2_B.nx
          simp at S2_nx
          have S2_n:=S2_B.n
          simp at S2_n
          have S2_gl:=S2_B.gl
          simp at S2_gl
          have S2_md:=S2_B.md
          simp at S2_md
          simp[h2,h3,h6,hB0,hB1,hn,w,S2_b,S2_nx,S2_n]
          exact⟨⟨i+1,hi2,by omega,by rw[hnx];exact S2_A.mono (by simp) (fun _ _=>rfl)⟩,upTo_lt h6 (by simp) hi2⟩
  · have hi3:i=of.length:=by omega
    subst hi3
    rw[List.take_length] at hA9
    have hk0:=List.length_filterMap_le (fBrk ⟨on,ok,of,ow⟩ ⟨nn,nk,nf,nw⟩) of
    obtain⟨K0,hK0⟩:∃ K0,of.filterMap (fBrk ⟨on,ok,of,ow⟩ ⟨nn,nk,nf,nw⟩)=K0:=⟨_,rfl⟩
    rw[hK0] at hA9 hk0
    simp[hn,c]
    refine LoopT.round (fun E S=>∃ (j:Nat) (Y:SV),(j≤nf.length)∧E 2=some (.op 0 0)∧E 3=some (.op 1 0)∧E 5=some (Y)∧E 9=some (.d (dI j))∧S.B 0=some ([.d (dS on), .d (dI ok), .d (fldsD of), .d (namesD ow)])∧S.B 1=some ([.d (dS nn), .d (dI nk), .d (fldsD nf), .d (namesD nw)])∧(2≤S.nx)∧(AccG (startS gl [] 0) S Y (K0++(nf.take j).filterMap (fNeed ⟨on,ok,of,ow⟩)))) (upTo 9 nf.length) ⟨0,X,by simp[h2,h3,h5,hB0,hB1];exact hA9.mono (by simp<;>omega) (fun _ _=>rfl)⟩ ?_
    rintro E S hk ⟨j,Y,hj,h2,h3,h5,h9,hB0,hB1,hx2,hA8⟩
    have hn:S.n=111:=by first | (simpa using hk.n)|(have hh:=hk.n;simp[hn] at hh;exact hh)
    have hg:S.gl=gl:=by first | (simpa using hk.gl)|(have hh:=hk.gl;simp[hg] at hh;exact hh)
    have hmd:S.md=[]:=by first | (simpa using hk.md)|(have hh:=hk.md;simp[hmd] at hh;exact hh)
    simp[h3,h9,hB1,hn,hg]
    have w:=wrap64 (n:=(j:Int)+1) (by omega) (by omega)
    refine BrT.dec (fun c2=>?_) (fun c2=>?_)
    · have hj2:j<nf.length:=by omega
      have hlen:=flds_len nf
      have hfit:j*5+5≤nf.length*5:=by omega
      have hat:=flds_at nf hj2
      have hnx:=fm_next (fNeed ⟨on,ok,of,ow⟩) hj2
      have hkl:=fm_len (fNeed ⟨on,ok,of,ow⟩) nf j
      generalize (nf.take j).filterMap (fNeed ⟨on,ok,of,ow⟩)=k at hA8 hnx hkl
      generalize nf[j]=f at hat hnx
      have hB2:=hB f.name
      have hAt:=fldI_at of f.name
      have hne:fNeed ⟨on,ok,of,ow⟩ f=if (decide (ok=3)&&(fldAt of f.name).isNone&&mustT f.ty)=true then some (3,on,f.name) else none:=rfl
      rw[hne] at hnx
      obtain⟨fn,fa,ft⟩:=f
      have n1:¬ 0=S.nx+5+5:=by omega
      have n2:¬ 1=S.nx+5+5:=by omega
      cases ft with
      | mk t lt lb =>
      simp only[Fld.cells,Typ.cells] at hat hB2 hAt
      simp only[mustT] at hnx
      simp[h2,h3,h9,hB0,hB1,hn,c2,hlen,hfit,hat]
      by_cases hk3:ok=3
      · subst hk3
        simp[h2,hB0,hn]
        repeat refine⟨DrawT.mk (by kernel_rfl),?_⟩
        refine CallT.p0 (hB2) (by first | rfl | (simp;done)|(simp[hg];done)) (by first | rfl | (simp;done)|(simp;rfl)|(simp[Def.cells,h2,h3,h5,h6,hB0,hB1,hn,hg,hmd,c,h2,h3,h5,h9,hB0,hB1,hn,hg,hmd,c2,hj2,w,hlen,hfit,hat,n1,n2];done)) ?_
        simp[hn]
        rcases hAt with ⟨hz,hx3⟩ | ⟨q,hq,hz,hx3⟩
        · rw[hx3] at hnx
          cases lb
          · simp[h2,h3,h5,h9,hB0,hB1,hn,w,hz]
            exact⟨⟨j+1,hj2,by omega,by rw[hnx];simp only[decide_true,Option.isNone_none,Bool.and_false,Bool.and_true,Bool.false_eq_true,if_false,Option.toList_none,List.append_nil];exact hA8.mono (by simp<;>omega) (fun _ _=>rfl)⟩,upTo_lt h9 (by simp) hj2⟩
          · simp[h2,h5,hB0,hn,hmd,hz]
            refine OpT_addG (l:=[(3,on,fn)]) (e:=63) (by_:=40) hA8 (by first | omega | (simp;done)|(simp;omega)) (by intro _ _;rfl) (by kernel_rfl) (by simp[hmd]) (by first | omega | (simp;done)|(simp;omega)) (by first | omega | (simp;done)|(simp;omega)) (by unfold appBound;simp only[List.length_append,List.length_cons,List.length_nil];omega) (by first | rfl | (simp;done)) ?_
            intro X2 S2 E9 hE9 S2_A S2_B S2_T
            rw[hE9]
            have S2_b:=S2_B.B
            simp at S2_b
            have S2_nx:=S2_B.nx
            simp at S2_nx
            have S2_n:=S2_B.n
            simp at S2_n
            have S2_gl:=S2_B.gl
            simp at S2_gl
            have S2_md:=S2_B.md
            simp at S2_md
            simp[h2,h3,h9,hB0,hB1,hn,w,S2_b,S2_nx,S2_n]
            exact⟨⟨j+1,hj2,by omega,by rw[hnx];simp only[decide_true,Option.isNone_none,Bool.and_true,if_true,Option.toList_some, ← List.append_assoc];exact S2_A.mono (by simp) (fun _ _=>rfl)⟩,upTo_lt h9 (by simp) hj2⟩
        · rw[hx3] at hnx
          have hq0:¬ (q:Int)<0:=by omega
          simp[h2,h3,h5,h9,hB0,hB1,hn,w,hz,hq0]
          exact⟨⟨j+1,hj2,by omega,by rw[hnx];simp only[decide_true,Option.isNone_some,Bool.and_false,Bool.false_and,Bool.false_eq_true,if_false,Option.toList_none,List.append_nil];exact hA8.mono (by simp<;>omega) (fun _ _=>rfl)⟩,upTo_lt h9 (by simp) hj2⟩
      · simp[h2,h3,h5,h9,hB0,hB1,hn,w,hk3]
        exact⟨⟨j+1,hj2,by omega,by rw[hnx];simp only[hk3,decide_false,Bool.false_and,Bool.false_eq_true,if_false,Option.toList_none,List.append_nil];exact hA8.mono (by simp<;>omega) (fun _ _=>rfl)⟩,upTo_lt h9 (by simp) hj2⟩
    · have hj3:j=nf.length:=by omega
      subst hj3
      rw[List.take_length] at hA8
      simp[h5,hn,c2]
      rw[show fieldsG ⟨on,ok,of,ow⟩ ⟨nn,nk,nf,nw⟩=K0++nf.filterMap (fNeed ⟨on,ok,of,ow⟩) from by rw[← hK0];rfl]
      exact hA8.frz
def defG (f:List Def) (d:Def):List Gr:=match atD f d.name with | none=>[(2,d.name,noS)] | some _=>if kindL f d.name≠d.kind then [(2,d.name,noS)] else fieldsG d (defL f d.name)++wordsG d (defL f d.name)
def growsG (o f:List Def):List Gr:=if checkB o=0∧checkB f=0 then o.flatMap (defG f) else [(1,noS,noS)]
theorem app_empty {α:Type} (a b:List α):(a++b).isEmpty=(a.isEmpty&&b.isEmpty):=by cases a<;>rfl
theorem fm_empty {α:Type}{g:α→Option Gr}{p:α→Bool} (h:∀ x,(g x).isSome=p x) (l:List α):(l.filterMap g).isEmpty = !l.any p:=by
  induction l with
  | nil=>rfl
  | cons x r ih =>
    have hx:=h x
    cases hg:g x with
    | none =>
      rw[hg] at hx
      rw[List.filterMap_cons_none hg,List.any_cons, ← hx,ih];rfl
    | some y =>
      rw[hg] at hx
      rw[List.filterMap_cons_some hg,List.any_cons, ← hx];rfl
theorem parts_empty (o n:Def):(fieldsG o n++wordsG o n).isEmpty = !partsB o n:=by
  have h1:=fm_empty (g:=fBrk o n) (p:=fldBrk n.flds) (fun f=>by unfold fBrk fldBrk;by_cases h:codeF n.flds f=0<;>simp[h]) o.flds
  have h2:=fm_empty (g:=fNeed o) (p:=fldNeed o.kind o.flds) (fun f=>by unfold fNeed;cases fldNeed o.kind o.flds f<;>rfl) n.flds
  have h3:=fm_empty (g:=wGone o n) (p:=wordGone n.words) (fun s=>by unfold wGone;cases wordGone n.words s<;>rfl) o.words
  have h4:=fm_empty (g:=wMore o) (p:=wordMore o.kind o.words) (fun s=>by unfold wMore;cases wordMore o.kind o.words s<;>rfl) n.words
  unfold fieldsG wordsG partsB
  simp only[app_empty,h1,h2,h3,h4,Bool.not_or,Bool.and_assoc]
theorem def_empty (f:List Def) (d:Def):(defG f d).isEmpty = !defBrk f d:=by
  unfold defG defBrk
  cases atD f d.name with
  | none=>rfl
  | some j =>
    simp only
    by_cases h:kindL f d.name=d.kind
    · rw[if_neg (fun k=>k h),parts_empty]
      simp[h]
    · simp[h]
theorem fl_empty (f:List Def) (o:List Def):(o.flatMap (defG f)).isEmpty = !o.any (defBrk f):=by
  induction o with
  | nil=>rfl
  | cons d r ih=>rw[List.flatMap_cons,app_empty,ih,def_empty,List.any_cons,Bool.not_or]
theorem grows_empty (o f:List Def):(growsG o f).isEmpty = !brkB o f:=by
  unfold growsG brkB
  split
  · exact fl_empty f o
  · rfl
theorem parts_len (o n:Def) (ho:DefSm o) (hn:DefSm n):(fieldsG o n).length≤2097152∧(wordsG o n).length≤2097152:=by
  have h1:=List.length_filterMap_le (fBrk o n) o.flds
  have h2:=List.length_filterMap_le (fNeed o) n.flds
  have h3:=List.length_filterMap_le (wGone o n) o.words
  have h4:=List.length_filterMap_le (wMore o) n.words
  have a1:=ho.2.1.1
  have a2:=hn.2.1.1
  have a3:=ho.2.2.1
  have a4:=hn.2.2.1
  unfold fieldsG wordsG
  simp only[List.length_append]
  omega
theorem fmap_next {α β:Type} (f:α→List β) {l:List α}{i:Nat} (hi:i<l.length):(l.take (i+1)).flatMap f=(l.take i).flatMap f++f l[i]:=by
  rw[List.take_succ_eq_append_getElem hi,List.flatMap_append]
  simp
def takeG (f o:List Def) (i:Nat):List Gr:=(o.take i).flatMap (defG f)
theorem takeG_next {f o:List Def}{i:Nat} (hi:i<o.length):takeG f o (i+1)=takeG f o i++defG f o[i]:=fmap_next (defG f) hi
theorem takeG_all (f o:List Def):takeG f o o.length=o.flatMap (defG f):=by unfold takeG;rw[List.take_length]
set_option maxHeartbeats 16000000 in
theorem p_spGrows (o f:List Def) (hol:o.length≤1048576) (hfl:f.length≤1048576) (ho:∀ d∈o,DefSm d) (hf:∀ d∈f,DefSm d):PCall Tryz.prog gl 36 [defsD o,defsD f] (grsD (growsG o f)):=by
  have hCo:=p_spCheck (gl:=gl) o hol ho
  have hCf:=p_spCheck (gl:=gl) f hfl hf
  have hZ:=fun s=>p_l2At (gl:=gl) f s (by omega)
  refine PCall.by_ (md:=[]) Tryz.func36 rfl (by kernel_rfl) (n:=81) Tryz.ntmps36 (by simp) (by decide) rfl ?_
  simp
  repeat refine⟨DrawT.mk (by kernel_rfl),?_⟩
  refine CallT.p0 (hCo) (by first | rfl | (simp;done)|(simp;done)) (by first | rfl | (simp;done)|(simp;rfl)|(simp;done)) ?_
  simp
  by_cases c1:checkB o=0
  · simp[c1]
    repeat refine⟨DrawT.mk (by kernel_rfl),?_⟩
    refine CallT.p0 (hCf) (by first | rfl | (simp;done)|(simp;done)) (by first | rfl | (simp;done)|(simp;rfl)|(simp;done)) ?_
    simp
    by_cases c2:checkB f=0
    · have hF:=ChkF.of c2 hf
      have hO:=ChkF.of c1 ho
      have ho10:=hO.len
      have hg:growsG o f=o.flatMap (defG f):=if_pos ⟨c1,c2⟩
      rw[hg]
      simp[c2]
      refine LoopT.round (fun E S=>∃ (i:Nat) (X:SV),(i≤o.length)∧E 0=some (.d (defsD o))∧E 1=some (.d (defsD f))∧E 5=some (X)∧E 6=some (.d (dI i))∧((takeG f o i).length≤i*4194304)∧(AccG (startS gl [] 0) S X (takeG f o i))) (upTo 6 o.length) ⟨0, .fl [] 0,by simp;exact⟨rfl,AccG.nil⟩⟩ ?_
      rintro E S hk ⟨i,X,hi,h0,h1,h5,h6,hkl,hA9⟩
      have hn:S.n=81:=by first | (simpa using hk.n)|(have hh:=hk.n;simp at hh;exact hh)
      have hg:S.gl=gl:=by first | (simpa using hk.gl)|(have hh:=hk.gl;simp at hh;exact hh)
      have hmd:S.md=[]:=by first | (simpa using hk.md)|(have hh:=hk.md;simp at hh;exact hh)
      simp[h0,h6,hn,hg]
      have w:=wrap64 (n:=(i:Int)+1) (by omega) (by omega)
      refine BrT.dec (fun c=>?_) (fun c=>?_)
      · have hi2:i<o.length:=by omega
        have hlen:=defs_len o
        have hfit:i*4+4≤o.length*4:=by omega
        have hat:=defs_at o hi2
        have hdB:=hO.def_ _ (List.getElem_mem hi2)
        have hdO:=hO.ok _ (List.getElem_mem hi2)
        have hdS:=ho _ (List.getElem_mem hi2)
        have hnx:=takeG_next (f:=f) hi2
        generalize takeG f o i=k at hA9 hnx hkl
        generalize o[i]=d at hat hnx hdB hdO hdS
        have hdF:=fldF_of hdB hdO
        have hZ2:=hZ d.name
        obtain⟨dn,dk,df,dw⟩:=d
        simp only[Def.cells] at hat
        simp only at hZ2
        unfold defG at hnx
        simp only at hnx
        have hat_0:=row_get0 hat (by decide) rfl
        have hat_0'':=(List.getElem?_eq_some_iff.1 hat_0).2
        have hat_0':i*4<_:=Nat.lt_of_lt_of_le (by omega) hfit
        have hat_1:=row_get hat 1 (by decide) rfl
        have hat_1'':=(List.getElem?_eq_some_iff.1 hat_1).2
        have hat_1':i*4+1<_:=Nat.lt_of_lt_of_le (by omega) hfit
        simp[h0,h1,h6,hn,c,hat_0',hat_0'',hlen]
        repeat refine⟨DrawT.mk (by kernel_rfl),?_⟩
        refine CallT.p0 (hZ2) (by first | rfl | (simp;done)|(simp[hg];done)) (by first | rfl | (simp;done)|(simp;rfl)|(simp[h0,h1,h5,h6,hn,hg,hmd,c,hat_0,hat_0',hat_0'',hat_1,hat_1',hat_1'',hi2,w,hlen,hfit,hat];done)) ?_
        simp[hn]
        cases ha:atD f dn with
        | none =>
          rw[ha] at hnx
          have hz:atZ f dn = -1:=by unfold atZ;rw[ha]
          simp[h0,h5,h6,hn,hmd,c,hat_0',hat_0'',hlen,hz]
          refine⟨DrawT.mk (by kernel_rfl),?_⟩
          refine OpT_addG (l:=[(2,dn,noS)]) (e:=63) (by_:=40) hA9 (by first | omega | (simp;done)|(simp;omega)) (by intro _ _;rfl) (by kernel_rfl) (by first | (simp[hmd];done)|(simp[h0,h1,h5,h6,hn,hg,hmd,c,hat_0,hat_0',hat_0'',hat_1,hat_1',hat_1'',hi2,w,hlen,hfit,hat];done)) (by first | omega | (simp;done)|(simp;omega)) (by first | omega | (simp;done)|(simp;omega)) (by unfold appBound;(try simp only[List.length_cons,List.length_nil]);omega) (by first | rfl | (simp;done)) ?_
          intro X2 S2 E9 hE9 S2_A S2_B S2_T
          rw[hE9]
          have S2_b:=S2_B.B
          simp at S2_b
          have S2_nx:=S2_B.nx
          simp at S2_nx
          have S2_n:=S2_B.n
          simp at S2_n
          have S2_gl:=S2_B.gl
          simp at S2_gl
          have S2_md:=S2_B.md
          simp at S2_md
          simp[h0,h1,h6,hn,w,S2_nx,S2_n]
          exact⟨⟨i+1,hi2,by omega,by rw[hnx];simp;omega,by rw[hnx];exact S2_A.mono (by simp) (fun _ _=>rfl)⟩,upTo_lt h6 (by simp) hi2⟩
        | some j =>
          rw[ha] at hnx
          have hz:atZ f dn=j:=by unfold atZ;rw[ha]
          have hj:=atD_lt ha
          have hj0:¬ (j:Int)<0:=by omega
          simp only at hnx
          rw[show kindL f dn=(defL f dn).kind from rfl,defL_some ha] at hnx
          have hnB:=hF.def_ _ (List.getElem_mem hj)
          have hnO:=hF.ok _ (List.getElem_mem hj)
          have hnS:=hf _ (List.getElem_mem hj)
          have hmlen:=defs_len f
          have hmfit:j*4+4≤f.length*4:=by omega
          have hmat:=defs_at f hj
          generalize f[j]=n at hnx hnB hnO hnS hmat
          have hnF:=fldF_of hnB hnO
          have hFl:=p_l9Fields (gl:=gl) ⟨dn,dk,df,dw⟩ n hdS.2.1.1 hnS.2.1.1 hdF hnF
          have hWd:=p_l9Words (gl:=gl) ⟨dn,dk,df,dw⟩ n hdS.2.2.1 hnS.2.2.1
          obtain⟨hl1,hl2⟩:=parts_len ⟨dn,dk,df,dw⟩ n hdS hnS
          obtain⟨nn,nk,nf,nw⟩:=n
          simp only[Def.cells] at hmat
          simp only at hnx
          have hmat_0:=row_get0 hmat (by decide) rfl
          have hmat_0'':=(List.getElem?_eq_some_iff.1 hmat_0).2
          have hmat_0':j*4<_:=Nat.lt_of_lt_of_le (by omega) hmfit
          have hmat_1:=row_get hmat 1 (by decide) rfl
          have hmat_1'':=(List.getElem?_eq_some_iff.1 hmat_1).2
          have hmat_1':j*4+1<_:=Nat.lt_of_lt_of_le (by omega) hmfit
          simp[h0,h1,h6,hn,hg,c,hat_1',hat_1'',hlen,hmat_1',hmat_1'',hj,hmlen,hz,hj0]
          refine⟨DrawT.mk (by kernel_rfl),?_⟩
          by_cases hkk:nk=dk
          · subst hkk
            rw[if_neg (fun h=>h rfl)] at hnx
            generalize fieldsG ⟨dn,nk,df,dw⟩ ⟨nn,nk,nf,nw⟩=L1 at *
            generalize wordsG ⟨dn,nk,df,dw⟩ ⟨nn,nk,nf,nw⟩=L2 at *
            simp[h0,h1,h5,h6,hn,c,hlen,hfit,hat,hj,hmlen,hmfit,hmat]
            refine⟨DrawT.mk (by kernel_rfl),?_⟩
            repeat refine⟨DrawT.mk (by kernel_rfl),?_⟩
            refine CallT.p0 (hFl) (by first | rfl | (simp;done)|(simp[hg];done)) (by first | rfl | (simp;done)|(simp;rfl)|(simp[h0,h1,h5,h6,hn,hg,hmd,c,hat_0,hat_0',hat_0'',hat_1,hat_1',hat_1'',hi2,w,hlen,hfit,hat,hmat_0,hmat_0',hmat_0'',hmat_1,hmat_1',hmat_1'',hj,hmlen,hmfit,hmat,hz,hj0];done)) ?_
            simp[hn]
            refine OpT_addG (l:=L1) (e:=63) (by_:=40) hA9 (by first | omega | (simp;done)|(simp;omega)) (by intro _ _;rfl) (by kernel_rfl) (by first | (simp[hmd];done)|(simp[h0,h1,h5,h6,hn,hg,hmd,c,hat_0,hat_0',hat_0'',hat_1,hat_1',hat_1'',hi2,w,hlen,hfit,hat,hmat_0,hmat_0',hmat_0'',hmat_1,hmat_1',hmat_1'',hj,hmlen,hmfit,hmat,hz,hj0];done)) (by first | omega | (simp;done)|(simp;omega)) (by first | omega | (simp;done)|(simp;omega)) (by unfold appBound;(try simp only[List.length_append,List.length_cons,List.length_nil]);omega) (by first | rfl | (simp;done)) ?_
            intro X2 S2 E9 hE9 S2_A S2_B S2_T
            rw[hE9]
            have S2_b:=S2_B.B
            simp at S2_b
            have S2_nx:=S2_B.nx
            simp at S2_nx
            have S2_n:=S2_B.n
            simp at S2_n
            have S2_gl:=S2_B.gl
            simp at S2_gl
            have S2_md:=S2_B.md
            simp at S2_md
            simp[h0,h1,h6,hn,c,hlen,hfit,hat,hj,hmlen,hmfit,hmat,S2_b,S2_nx,S2_n]
            refine⟨DrawT.mk (by kernel_rfl),?_⟩
            repeat refine⟨DrawT.mk (by kernel_rfl),?_⟩
            refine CallT.p0 (hWd) (by first | rfl | (simp;done)|(simp[hg,S2_gl];done)) (by first | rfl | (simp;done)|(simp;rfl)|(simp[h0,h1,h5,h6,hn,hg,hmd,c,hat_0,hat_0',hat_0'',hat_1,hat_1',hat_1'',hi2,w,hlen,hfit,hat,hmat_0,hmat_0',hmat_0'',hmat_1,hmat_1',hmat_1'',hj,hmlen,hmfit,hmat,hz,hj0,S2_b,S2_nx,S2_n,S2_gl,S2_md];done)) ?_
            simp[hn,S2_n]
            refine OpT_addG (l:=L2) (e:=63) (by_:=40) S2_A (by first | omega | (simp;done)|(simp;omega)) (by intro _ _;rfl) (by kernel_rfl) (by first | (simp;done)|(simp[hmd,S2_md];done)) (by first | omega | (simp;done)|(simp;omega)) (by first | omega | (simp;done)|(simp;omega)) (by unfold appBound;(try simp only[List.length_append]);omega) (by first | rfl | (simp;done)) ?_
            intro X3 S3 E9 hE9 S3_A S3_B S3_T
            rw[hE9]
            have S3_b:=S3_B.B
            simp at S3_b
            have S3_nx:=S3_B.nx
            simp at S3_nx
            have S3_n:=S3_B.n
            simp at S3_n
            have S3_gl:=S3_B.gl
            simp at S3_gl
            have S3_md:=S3_B.md
            simp at S3_md
            simp[h0,h1,h6,hn,w,S2_nx,S2_n,S3_nx,S3_n]
            exact⟨⟨i+1,hi2,by omega,by rw[hnx,List.length_append,List.length_append];omega,by rw[hnx, ← List.append_assoc];exact S3_A.mono (by simp) (fun _ _=>rfl)⟩,upTo_lt h6 (by simp) hi2⟩
          · rw[if_pos hkk] at hnx
            simp[h0,h5,h6,hn,hmd,c,hat_0',hat_0'',hlen,hkk]
            refine OpT_addG (l:=[(2,dn,noS)]) (e:=63) (by_:=40) hA9 (by first | omega | (simp;done)|(simp;omega)) (by intro _ _;rfl) (by kernel_rfl) (by first | (simp[hmd];done)|(simp[h0,h1,h5,h6,hn,hg,hmd,c,hat_0,hat_0',hat_0'',hat_1,hat_1',hat_1'',hi2,w,hlen,hfit,hat,hmat_0,hmat_0',hmat_0'',hmat_1,hmat_1',hmat_1'',hj,hmlen,hmfit,hmat,hz,hj0];done)) (by first | omega | (simp;done)|(simp;omega)) (by first | omega | (simp;done)|(simp;omega)) (by unfold appBound;(try simp only[List.length_cons,List.length_nil]);omega) (by first | rfl | (simp;done)) ?_
            intro X2 S2 E9 hE9 S2_A S2_B S2_T
            rw[hE9]
            have S2_b:=S2_B.B
            simp at S2_b
            have S2_nx:=S2_B.nx
            simp at S2_nx
            have S2_n:=S2_B.n
            simp at S2_n
            have S2_gl:=S2_B.gl
            simp at S2_gl
            have S2_md:=S2_B.md
            simp at S2_md
            simp[h0,h1,h6,hn,w,S2_nx,S2_n]
            exact⟨⟨i+1,hi2,by omega,by rw[hnx];simp;omega,by rw[hnx];exact S2_A.mono (by simp) (fun _ _=>rfl)⟩,upTo_lt h6 (by simp) hi2⟩
      · have hi3:i=o.length:=by omega
        subst hi3
        rw[takeG_all] at hA9
        simp[h5,hn,c]
        exact hA9.frz
    · have hg:growsG o f=[(1,noS,noS)]:=if_neg (fun h=>c2 h.2)
      rw[hg]
      simp[c2]
      exact⟨by unfold appBound;omega,rfl⟩
  · have hg:growsG o f=[(1,noS,noS)]:=if_neg (fun h=>c1 h.1)
    rw[hg]
    simp[c1]
    exact⟨by unfold appBound;omega,rfl⟩
theorem region_one {F:Fence}{n id:Nat}{P:Program}{o:Oper}{Q:Exit→Act→World→Prop}{a:Act}{w w':World}{x:Next}{u:Value} (hg:o.guard=none) (hd:∀ c,o.op≠.defer c) (hc:∀ c,o.op≠.call c)
    (hrun:(execOp a.eval o).run P w=.ok x w') (hx:x=.value u∨x=.skip∧u=undef) (h:Q .normal (a.put o.dst u) w'):(Code.region id #[o] false).wpIn F n P Q a w:=by
  refine wpIn_region_lit (l:=[o]) (wpListIn_plain hg fun K hK=>?_)
  refine⟨fun f hf=>?_,?_⟩
  · exfalso
    unfold Oper.about at hf
    split at hf
    · rename_i c h1;exact hc c h1
    · cases hf
  · rw[Oper.semAt_eq _ _ _ hd,hrun]
    rcases hx with rfl | ⟨rfl,rfl⟩
    · exact hK _ _ h
    · exact hK _ _ h
theorem rel_frame {m0:Nat→Nat}{w0:World}{G:Gh}{E E':Env}{S S':St}{F F':Nat→Prop}{a a':Act}{w:World} (h:Rel m0 w0 G E S F a w) (hB:∀ b cs,S'.B b=some cs→S.B b=some cs) (hT:∀ i p,S'.T i=some p→S.T i=some p) (hx:S.nx≤S'.nx) (hg:S'.gl=S.gl)
    (hF:∀ b,F' b→F b) (hd:a'.defers=[]) (hs:a'.tmps.size=S'.n) (hfew:S'.n≤globalsAt) (he:∀ k s,E' k=some s→VR G w s (slotOf a' k)):Rel m0 w0 G E' S' F' a' w:=by
  have k:=h.forget (S':={ S' with n:=S.n }) ⟨hB,hT,hx⟩ rfl hg
  exact⟨he,hs,hfew,k.box,k.inj,k.tip,k.tinj,k.tlt,k.tbox,fun b hb=>k.fresh b (hF b hb),k.new,k.low,k.below,hd,k.glob,k.more.keep (Fut.refl _ _) (.refl _) (fun _ _ _ h _=>h) rfl (fun _ _ _=>rfl) rfl hF rfl⟩
structure StopB (T:TypeId) (o:Oper):Prop where
  op:o.op=.store T (.tmp 4) (.const (.bool false))
  guard:o.guard=none
  dst:o.dst=none
def stopC (i j:Nat) (o:Oper):Code:=.block i ((Code.region j #[o] false).seq .ret)
structure StopR (r:Loop) (i j:Nat) (o:Oper):Prop where
  par:r.params = #[8]
  asg:r.assign=.skip
  body:r.body=stopC i j o
  size:r.tmps.size=9
set_option maxHeartbeats 2000000 in
theorem stop_call {P:Program}{T:TypeId}{o:Oper}{i j y b4:Nat}{r:Loop}{g:SV}{S:St} (ho:StopB T o) (hz:szOf P T=some 1) (hr:StopR r i j o) (hst:r.state=.ready) (hy:S.B y=some [.lp r [4] [.op b4 0]]) (hb:S.B b4=some [.d (dB false)]) :
    YCall P y [g] S (.d (dB false)) (S.set y [.lp { r with state:=.done,pending:=some .ret } [4] [.op b4 0]]):=by
  have hne:b4≠y:=fun e=>by rw[e,hy] at hb;cases hb
  refine⟨⟨rfl,rfl,rfl,Nat.le_refl _⟩,fun m0 w0 G E F a w vals l hR hF hl hlen hv=>?_⟩
  obtain⟨_,_,_,hO⟩:=hR.more.obj y _ l hy hl
  cases hO with
  | lp hbl hs =>
  have hs4:=hs 0 (by simp)
  simp only[List.getElem_cons_zero,List.getD_cons_zero] at hs4
  obtain⟨v,rfl⟩:∃ v,vals=[v]:=by
    cases vals with
    | nil=>simp at hlen
    | cons v t=>exact⟨v,by simp at hlen;rw[hlen]⟩
  have hyl:=run_yield (P:=P) (args:=[v].toArray) hbl (by rw[hr.par];rfl)
  rw[hr.asg,hr.body] at hyl
  refine⟨_,_,_,_,hyl,roundIn_of_wpIn trivial (wpIn_skip ⟨_,run_beginRound hbl hst,?_⟩)⟩
  have htm:((r.params.zip [v].toArray).foldl (fun tmps (t,a)=>tmps.setIfInBounds t a) r.tmps)=r.tmps.setIfInBounds 8 v:=by rw[hr.par];simp
  rw[htm]
  obtain⟨hR2,f2⟩:=hR.set_obj hy hl (cs':=[.lp { r with state:=.busy } [4] [.op b4 0]]) (o':=.loop { r with state:=.busy }) (fun _ _ _ e=>by cases e)
    (fun W f hW=>.lp hW fun q hq=>(hs q hq).fut f) (W:=w.putObj l (.loop { r with state:=.busy })) rfl
  have hpt:VR G (w.putObj l (.loop { r with state:=.busy })) (.op b4 0) ((r.tmps.setIfInBounds 8 v).getD 4 undef):=by
    have e1:(r.tmps.setIfInBounds 8 v).getD 4 undef=r.tmps.getD 4 undef:=by
      simp[Array.getD_eq_getD_getElem?,Array.getElem?_setIfInBounds_ne]
    rw[e1];exact hs4.fut f2
  have hsz:(r.tmps.setIfInBounds 8 v).size=9:=by rw[Array.size_setIfInBounds,hr.size]
  have hR3:=rel_frame (E':=fun k=>if k=4 then some (.op b4 0) else none) (S':={ S.set y [.lp { r with state:=.busy } [4] [.op b4 0]] with n:=9 }) (a':={ tmps:=r.tmps.setIfInBounds 8 v,defers:=[] }) hR2 (fun _ _ h=>h) (fun _ _ h=>h) (Nat.le_refl _) rfl (fun _ h=>h) rfl hsz (show 9≤globalsAt by decide)
    (fun k s hk=>by
      split at hk
      · rename_i e
        subst e
        cases hk
        simpa[slotOf,globalsAt] using hpt
      · cases hk)
  have hbb:(S.set y [.lp { r with state:=.busy } [4] [.op b4 0]]).B b4=some [.d (dB false)]:=by
    simp only[St.set,upd_ne S.B _ hne];exact hb
  obtain⟨x,u,w3,G3,hrun,hx,_,hR4,f3⟩:=does_store (P:=P) (o:=o) (cs:=[.d (dB false)]) (s:=.d (dB false)) ho.op hR3 (by rfl) hbb (by rfl) rfl hz rfl (by simp)
  refine wpIn_block (wpIn_seq (region_one ho.guard (by rw[ho.op];intro c h;cases h) (by rw[ho.op];intro c h;cases h) hrun hx ?_))
  refine wpIn_ret ?_
  have hy4:∀ cs:List SV,((({ S.set y [.lp { r with state:=.busy } [4] [.op b4 0]] with n:=9 }:St).set b4 cs)).B y=some [.lp { r with state:=.busy } [4] [.op b4 0]]:=fun cs=>by
    simp only[St.set,upd_ne _ _ (Ne.symm hne),upd_same]
  have hl3:G3.obj y=some l:=f3.obj _ _ hl
  obtain⟨_,_,_,hO4⟩:=hR4.more.obj y _ l (hy4 _) hl3
  cases hO4 with
  | lp hbl4 hs4' =>
  obtain⟨hR5,f5⟩:=hR4.set_obj (hy4 _) hl3 (cs':=[.lp { r with state:=.done,pending:=some .ret } [4] [.op b4 0]]) (o':=.loop { r with state:=.done,pending:=some .ret }) (fun _ _ _ e=>by cases e)
    (fun W f hW=>.lp hW fun q hq=>(hs4' q hq).fut f) (W:=w3.putObj l (.loop { r with state:=.done,pending:=some .ret })) rfl
  have fA:=(f2.trans f3).trans f5
  refine⟨_,_,run_endRound (some .ret) hbl4,_,G3,rfl, .d (.v rfl),?_,fA⟩
  refine rel_frame hR5 (fun b cs hb'=>?_) (fun _ _ h=>h) (Nat.le_refl _) rfl (fun b h=>h.1) hR.defers hR.size hR.few (fun k s hk=>(hR.env k s hk).fut fA)
  by_cases e1:b=y
  · subst e1
    simpa only [St.set,upd_same] using hb'
  · have hb2:S.B b=some cs:=by simpa only [St.set,upd_ne _ _ e1] using hb'
    by_cases e2:b=b4
    · subst e2
      rw[hb] at hb2
      simp only[St.set,upd_ne _ _ e1,upd_same]
      exact hb2
    · simp only[St.set,upd_ne _ _ e1,upd_ne _ _ e2]
      exact hb2
abbrev dfC:List SV:=[.fc 0 (.ic [] [] [])]
abbrev startR (S:St) (r:Loop) (b4:Nat):St:=((S.new S.nx dfC).new (S.nx+1) [.lp r [4] [.op b4 0]]).adv 2
def doneR (r:Loop):Loop:={ r with state:=.done,pending:=some .ret }
def endR (S:St) (r:Loop) (b4:Nat):St:={ S with B:=fun x=>if x=S.nx then some dfC else if x=S.nx+1 then some [.lp r [4] [.op b4 0]] else if x=b4 then some [.d (dB false)] else none,T:=fun _=>none,nx:=S.nx+2 }
set_option maxHeartbeats 2000000 in
theorem range_stop {P:Program}{o:Oper}{i j b4:Nat}{g:FuncId}{cs:List SV}{S:St}{E:Env}{F:Nat→Prop}{a:Act}{w w0:World}{m0:Nat→Nat}{G:Gh}{Q:Exit→Act→World→Prop}{br:Bool} (hR:Rel m0 w0 G E S F a w) (hF:∀ b,S.nx≤b→F b) (h9:S.n=9)
    (h7:E 7=some (.fn (.func g) [] cs)) (h4:E 4=some (.op b4 0)) (hlt:b4<S.nx)
    (hcall:∀ r:Loop,StopR r i j o→r.state=.ready→r.pending=none→LCall P g ([.yv (S.nx+1)]++cs) (startR S r b4) (.tu []) (endR S (if br then doneR r else r) b4))
    (hQ:∀ G' r F' w',Rel m0 w0 G' E (endR S r b4) F' a w'→G'.obj S.nx=some w.heap.size→Q (if br then .ret else .normal) { a with defers:=[{ target:=.collected w.heap.size,args:=#[] }]++a.defers } w') :
    (Code.rangeFunc (.tmp 7) #[8] .skip (stopC i j o)).wpIn Fence.wide 0 P Q a w:=by
  refine wpIn_rangeFunc (fun fn _=>?_)
  have h7v:=evalO_ok hR (x:=.tmp 7) (show evalO E (.tmp 7)=some _ from h7)
  obtain⟨us,vs,e7,l1,l2,k1,k2⟩:=fnS_ok (g:=g) (xs:=[]) (ys:=cs) rfl h7v
  have hus:us=[]:=List.eq_nil_of_length_eq_zero l1
  subst hus
  obtain⟨r0,hr0⟩:∃ r0:Loop,r0={ state:=.ready,pending:=none,fn,tmps:=a.tmps,params:=#[8],assign:=.skip,body:=stopC i j o,defers:=w.heap.size }:=⟨_,rfl⟩
  have hS0:StopR r0 i j o:=by rw[hr0];exact⟨rfl,rfl,rfl,hR.size.trans h9⟩
  have hC:=hcall r0 hS0 (by rw[hr0]) (by rw[hr0])
  obtain⟨G1,hR1,f1,o1⟩:=hR.new_obj (hF S.nx (Nat.le_refl _)) dfC (.deferred (some [])) (fun _ _ _ e=>by cases e) (fun G' W f hW=>.df hW)
  obtain⟨G2,hR2,f2,o2⟩:=hR1.new_obj (id:=S.nx+1) ⟨hF _ (by omega),by omega⟩ [.lp r0 [4] [.op b4 0]] (.loop r0) (fun _ _ _ e=>by cases e) (fun G' W f hW=>.lp hW fun q hq=>by
    have hq0:q=0:=by simpa using hq
    subst hq0
    have:=(hR1.env 4 _ h4).fut f
    rw[hr0]
    simpa[slotOf,globalsAt] using this)
  have hR3:=hR2.adv 2
  obtain⟨fnF,hfn,hname,hbody⟩:=hC.1
  have hname' : fnF.name ≠ "runtime.NumGoroutine" := by simpa using hname
  have hbody':fnF.body≠none:=by intro e;rw[e] at hbody;simp at hbody
  refine⟨w.heap.size+1,[{ target:=.collected w.heap.size,args:=#[] }],(w.alloc (.deferred (some []))).alloc (.loop r0),{ target:=.fn (.func g) vs.toArray,args:=#[.func (.yield (w.heap.size+1)) #[] #[]] },(w.alloc (.deferred (some []))).alloc (.loop r0),g,
    #[.func (.yield (w.heap.size+1)) #[] #[]]++vs.toArray,(w.alloc (.deferred (some []))).alloc (.loop r0),?_,?_,?_,?_,?_,?_⟩
  · rw[hr0];exact run_enterLoop_outer _ _ _ _ _
  · simp only[resolve,e7]
    simp[go_sem]
  · intro f' hf'
    trivial
  · simp[invoke,callFunc,hfn]
    rw[if_neg hname',if_neg hbody']
  · intro h;simp[Fence.wide] at h
  · refine callsIn_wide.2 ?_
    have hyv:VR G2 ((w.alloc (.deferred (some []))).alloc (.loop r0)) (.yv (S.nx+1)) (.func (.yield (w.heap.size+1)) #[] #[]):=.yv (by rw[o2,World.size_alloc])
    have hargs:=dyn_args (G:=G2) (w:=(w.alloc (.deferred (some []))).alloc (.loop r0)) (xs:=[]) (ss:=[.yv (S.nx+1)]) (ys:=cs) (us:=[]) (ws:=[Value.func (.yield (w.heap.size+1)) #[] #[]]) (vs:=vs) rfl rfl l2 (fun j hj=>by cases hj) (fun j hj hj'=>by
      have:j=0:=by simpa using hj
      subst this
      exact hyv) (fun j hj hj'=>((k2 j hj hj').fut f1).fut f2)
    have hcl:=hC.2.2 m0 w0 G2 E _ a _ ([Value.func (.yield (w.heap.size+1)) #[] #[]]++vs) hR3 (fun b hb=>⟨⟨hF b (by simp at hb;omega),by simp at hb;omega⟩,by simp at hb;omega⟩) hargs.1 hargs.2
    have ea:(#[Value.func (.yield (w.heap.size+1)) #[] #[]]++vs.toArray:Array Value)=([Value.func (.yield (w.heap.size+1)) #[] #[]]++vs).toArray:=by simp
    rw[ea]
    refine hcl.mono ?_
    rintro e w' ⟨u,G',rfl,_,hR4,f4⟩
    have ho4:G'.obj (S.nx+1)=some (w.heap.size+1):=f4.obj _ _ (by rw[o2,World.size_alloc])
    have hy4:∀ r,(endR S r b4).B (S.nx+1)=some [.lp r [4] [.op b4 0]]:=fun r=>by
      show (if S.nx+1=S.nx then _ else _)=_
      rw[if_neg (by omega),if_pos rfl]
    obtain⟨_,_,_,hO⟩:=hR4.more.obj (S.nx+1) _ _ (hy4 _) ho4
    cases hO with
    | lp hb hs =>
    have hst:(if br then doneR r0 else r0).state≠.busy:=by
      cases br
      · simp[hr0]
      · simp[doneR]
    obtain⟨hR5,f5⟩:=hR4.set_obj (hy4 _) ho4 (cs':=[.lp { (if br then doneR r0 else r0) with state:=.exhausted } [4] [.op b4 0]]) (o':=.loop { (if br then doneR r0 else r0) with state:=.exhausted }) (fun _ _ _ e=>by cases e)
      (fun W f hW=>.lp hW fun q hq=>(hs q hq).fut f) (W:=w'.putObj (w.heap.size+1) (.loop { (if br then doneR r0 else r0) with state:=.exhausted })) rfl
    have hR6:=rel_frame (E':=E) (S':=endR S { (if br then doneR r0 else r0) with state:=.exhausted } b4) (F':=fun _=>False) (a':=a) hR5 (fun b cs hb=>by
      by_cases e1:b=S.nx+1
      · subst e1
        rw[hy4] at hb
        simpa only [St.set,upd_same] using hb
      · simp only[St.set,upd_ne _ _ e1]
        simp only[endR,e1,if_false] at hb ⊢
        exact hb) (fun i p h=>by cases h) (Nat.le_refl _) rfl (fun _ h=>h.elim) hR.defers hR.size hR.few hR5.env
    have hq:=hQ G' _ _ _ hR6 (f4.obj _ _ (f2.obj _ _ o1))
    refine⟨_,_,run_endLoop hb hst,?_⟩
    cases br
    · have hp:(if (false:Bool) then doneR r0 else r0).pending=none:=by simp[hr0]
      split
      · exact hq
      · rename_i h;rw[hp] at h;cases h
    · have hp:(if (true:Bool) then doneR r0 else r0).pending=some .ret:=rfl
      split
      · rename_i h;rw[hp] at h;cases h
      · rename_i h
        rw[hp] at h
        cases h
        exact wpIn_ret hq
set_option maxHeartbeats 2000000 in
theorem l_brk (S0:St) (o f:List Def):LCall Tryz.prog 72 [.d (defsD o), .d (defsD f)] S0 (.fn (.func 131) [] [.op S0.nx 0, .op (S0.nx+1) 0]) (leftS S0 3 [(S0.nx,[.d (defsD o)]),(S0.nx+1,[.d (defsD f)])] []):=by
  refine LCall.byE (md:=[]) (leftS_keeps _ _ _ _) (by simp[SV.lt,ltS]<;>omega) Tryz.func72 rfl (by kernel_rfl) (n:=6) Tryz.ntmps72 (by simp) (by decide) rfl ?_
  simp
  refine elder_old (bs:=[]) (ts:=[]) (by ((repeat first | rw[old_adv] | rw[old_setIn (by first | (simp;done) | fail)] | rw[old_set (by first | omega | (simp;done)|(simp;omega))] | rw[old_new (by first | omega | (simp;done)|(simp;omega))] | rw[old_tipIn (by first | (simp;done) | fail)] | rw[old_tip (by first | omega | (simp;done)|(simp;omega))] | refine old_left (by first | omega | (simp;done)|(simp;omega)) (by first | omega | (simp;done)|(simp;omega)) (by first | omega | (simp;done)|(simp;omega)) ?_);(first | exact ho | simp))) ?_ ?_ ?_ ?_ ?_ ?_
  · simp
  · simp
  · simp[ltS,SV.lt]
  · simp
  · simp
  · simp
def PreG (g:FuncId) (o f:List Def):Exit→Env→St→Prop:=fun ex E S=>ex=.normal∧∃ b,E 4=some (.op 0 0)∧E 7=some (.fn (.func g) [] [.op b 0, .op (b+1) 0])∧S.B 0=some [.d (dB false)]∧S.B b=some [.d (defsD o)]∧S.B (b+1)=some [.d (defsD f)]∧0<b∧b+1<S.nx∧S.n=9
set_option maxHeartbeats 2000000 in
theorem grew_pre (o f:List Def):∃ (A R1:Code) (o1 o2:Oper) (k:Nat),Tryz.f24.body=some (A.seq ((R1.seq (.block 0 (.rangeFunc (.tmp 7) #[8] .skip (stopC 1 2 o1)))).seq ((Code.region k #[o2] false).seq .ret)))∧StopB 4 o1 ∧
    (o2.op=.store 4 (.tmp 4) (.const (.bool true))∧o2.guard=none∧o2.dst=none)∧@VCt true Tryz.prog ⟨.seq A R1⟩ (startE (fun _=>none) [.d (defsD o), .d (defsD f)]) (startS (fun _=>none) [] 9) (PreG 131 o f):=by
  refine⟨_,_,_,_,_,rfl,⟨rfl,rfl,rfl⟩,⟨rfl,rfl,rfl⟩,?_⟩
  simp
  refine CallT.l (l_brk _ o f) rfl ?_
  simp[PreG]
  refine⟨4,?_⟩
  simp
structure HoldR (d y b4:Nat) (r:Loop) (S:St):Prop where
  hd:S.B d=some dfC
  hy:S.B y=some [.lp r [4] [.op b4 0]]
  hb:S.B b4=some [.d (dB false)]
  hdn:d<S.nx
  hyn:y<S.nx
  hbn:b4<S.nx
theorem HoldR.ext {d y b4:Nat}{r:Loop}{S S':St} (h:HoldR d y b4 r S) (e:Ext S S'):HoldR d y b4 r S' :=
  ⟨(e.B _ h.hdn).trans h.hd,(e.B _ h.hyn).trans h.hy,(e.B _ h.hbn).trans h.hb,Nat.lt_of_lt_of_le h.hdn e.nx,Nat.lt_of_lt_of_le h.hyn e.nx,Nat.lt_of_lt_of_le h.hbn e.nx⟩
theorem HoldR.hand {d y b4 i j:Nat}{r:Loop}{o:Oper} (ho:StopB 4 o) (hr:StopR r i j o) (hst:r.state=.ready) (c:Prop):Hand y (HoldR d y b4 r) (HoldR d y b4 (doneR r)) c :=
  ⟨fun h e=>h.ext e,fun h e=>h.ext e,fun _ g S h=>⟨_,stop_call ho (by rfl) hr hst h.hy h.hb,by
    have n1:d≠y:=fun e=>by have:=h.hd;rw[e,h.hy] at this;cases this
    have n2:b4≠y:=fun e=>by have:=h.hb;rw[e,h.hy] at this;cases this
    refine⟨?_,?_,?_,h.hdn,h.hyn,h.hbn⟩
    · simp only[St.set,upd_ne _ _ n1];exact h.hd
    · simp only[St.set,upd_same];rfl
    · simp only[St.set,upd_ne _ _ n2];exact h.hb⟩⟩
theorem HoldR.elder {b4:Nat}{r r0:Loop}{S0 S:St} (h:HoldR S0.nx (S0.nx+1) b4 r S) (hb:b4<S0.nx):Elder (startR S0 r0 b4) (endR S0 r b4) S:=by
  refine⟨rfl,rfl,rfl,Nat.le_refl _,fun x cs hx=>?_,fun i p hi=>(by cases hi),fun x hx=>?_⟩
  · simp only[endR] at hx
    split at hx
    · rename_i e;subst e;cases hx
      exact⟨by simp[endR],⟨[],by rw[h.hd];rfl⟩, .inl (by simp[ltS,SV.lt])⟩
    · split at hx
      · rename_i e;subst e;cases hx
        exact⟨by simp[endR],⟨[],by rw[h.hy];rfl⟩, .inl (by show ltS (S0.nx+2) [.lp r [4] [.op b4 0]]=true;simp only[ltS,SV.lt,Bool.and_true,decide_eq_true_eq];omega)⟩
      · split at hx
        · rename_i e;subst e;cases hx
          exact⟨by simp[endR];omega,⟨[],by rw[h.hb];rfl⟩, .inl (by simp[ltS,SV.lt])⟩
        · cases hx
  · simp only[endR] at hx
    split at hx
    · cases hx
    · split at hx
      · cases hx
      · split at hx
        · cases hx
        · cases hx
set_option maxHeartbeats 2000000 in
theorem grew_end {S:St}{E:Env}{F:Nat→Prop}{a:Act}{w w':World}{m:Nat→Nat}{G:Gh}{d D:Nat}{v:Bool} (hR:Rel m w G E S F a w') (h4:E 4=some (.op 0 0)) (hb:S.B 0=some [.d (dB v)]) (hd:S.B d=some dfC) (hD:G.obj d=some D) (hgl:S.gl cleanAt=none) :
    LeavesInM Fence.wide 0 Tryz.prog Tryz.f24 a.tmps (fun e w'=>∃ u m',e=Ending.returned u∧PV m' w' (dB v) u∧(∀ B,B<w.heap.size→m' B=m B)∧(∀ B,w'.heap.size≤B→m' B=0)∧RowKit.Below w.heap.size w w'∧((fun _=>none:Nat→Option Go.Sh.D) cleanAt≠none→∀ B,w.heap.size≤B→0<m' B→Sh.okB w' B (m' B)))
      [{ target:=.collected D,args:=#[] }] .returning w':=by
  obtain⟨_,_,hlow,hO⟩:=hR.more.obj d _ D hd hD
  cases hO with
  | df hDf =>
  obtain⟨B',hg,hx⟩:=(evalO_ok hR (x:=.tmp 4) (show evalO E (.tmp 4)=some _ from h4)).op_inv
  obtain⟨B,us,T,hB,hheap,hlen,hmk,hge,_,hc⟩:=hR.box 0 _ hb (hR.boxOf hb hg)
  rw[hg] at hB
  cases hB
  have hne:B'≠D:=fun e=>by subst e;rw[hDf] at hheap;cases hheap
  have hl0:0<us.size:=by simp at hlen;omega
  obtain⟨_,hv⟩:=hc 0 (by simp) hl0
  have hv2:us[0]'hl0=.bool v:=by
    have:=(VR.v_inv hv).1
    simpa using this
  refine⟨by simp, .inl ⟨_,_,rfl,run_takeDeferred hDf,⟨.bool v,?_,_,G.mark,rfl, .v rfl,hR.low,fun B hB=>hR.new B (by simpa using hB),?_,fun h=>absurd rfl h⟩⟩⟩
  · have hc5:(w'.putObj D (.deferred none)).cell? ⟨B',0,none⟩=some (.bool v):=by
      simp only[World.cell?,World.putObj_heap_other hne,hheap]
      rw[if_neg (by simp),Array.getElem?_eq_getElem hl0,hv2]
    have hx4:a.tmps[4]?.getD undef=.pointer (some ⟨B',0,none⟩):=by rw[← Array.getD_eq_getD_getElem?];exact hx
    simp[results,Tryz.f24,go_sem,hx4,hc5]
  · exact hR.below.trans ⟨rfl,rfl,rfl,by simp,fun i hi=>World.putObj_heap_other (by omega)⟩
set_option maxHeartbeats 4000000 in
theorem p_imGrew (o f:List Def) (hol:o.length≤1048576) (hfl:f.length≤1048576) (ho:∀ d∈o,DefSm d) (hf:∀ d∈f,DefSm d):PCall Tryz.prog (fun _=>none) 24 [defsD o,defsD f] (dB (!brkB o f)):=by
  obtain⟨br,hbr⟩:∃ b,brkB o f=b:=⟨_,rfl⟩
  rw[hbr]
  obtain⟨A,R1,o1,o2,kk,hbody,hB1,⟨h2o,h2g,h2d⟩,hpre⟩:=grew_pre o f
  have hfun:Tryz.prog.funcs[24]?=some Tryz.f24:=Tryz.func24
  refine⟨⟨_,hfun,by kernel_rfl,by rw[hbody];rfl⟩,fun m w vals hm hg hl hv=>callsIn_wide.1 (callsIn_of_wp_marks (n:=0) hfun hbody trivial ?_)⟩
  have hnt:Tryz.f24.ntmps=9:=by kernel_rfl
  have hsz:(vals.toArray++Array.replicate (Tryz.f24.ntmps - vals.toArray.size) undef).size=9:=by simp at hl;simp;omega
  have hstart:=start_slots (gl:=fun _=>none) (G:=⟨fun _=>none,fun _=>none,m,fun _=>none⟩) (w:=w) (ss:=[defsD o,defsD f].map .d) (vals:=vals) (n:=9) (ntmps:=9) (by simpa using hl) (by simp) (fun j hj hj'=>by
    have:([defsD o,defsD f].map SV.d)[j]=.d ([defsD o,defsD f][j]'(by simpa using hj)):=by
      have hj2:j=0∨j=1:=by simp at hj;omega
      rcases hj2 with rfl | rfl<;>rfl
    rw[this]
    exact .d (hv j (by simpa using hj) hj')) hg.1 (Array.replicate (Tryz.f24.ntmps - vals.toArray.size) undef)
  have hR0:Rel m w ⟨fun _=>none,fun _=>none,m,fun _=>none⟩ (startE (fun _=>none) ([defsD o,defsD f].map .d)) (startS (fun _=>none) [] 9) (fun b=>(startS (fun _=>none) [] 9).nx≤b∨False) { tmps:=vals.toArray++Array.replicate (Tryz.f24.ntmps - vals.toArray.size) undef,defers:=[] } w :=
    ⟨hstart,hsz,by decide,fun b cs hb=>by simp[startS] at hb,fun b b' B hb=>by simp[startS] at hb,fun i k sz hi=>by simp[startS] at hi,fun i i' B v k c v' k' c' hi=>by simp at hi,fun i B v k c hi=>by simp at hi,fun i b B v k c hi=>by simp at hi,fun b hb=>⟨rfl,rfl⟩,hm,fun _ _=>rfl,RowKit.Below.refl _ _,rfl,hg.1,⟨fun b cs B hb=>by simp[startS] at hb,fun b b' B hb=>by simp[startS] at hb,fun _ _=>rfl,hg.2⟩⟩
  have hA:VC Tryz.prog A (startE (fun _=>none) [.d (defsD o), .d (defsD f)]) (startS (fun _=>none) [] 9) (Then (fun E' S'=>VC Tryz.prog R1 E' S' (PreG 131 o f)) (PreG 131 o f)):=hpre
  refine wpIn_seq ((wpIn_wide (n:=0)).2 (VC.sound hA m w _ _ w (fun _=>False) (fun _ h=>h.elim) hR0 _ ?_))
  rintro ex1 G1 E1 S1 a1 w1 hq1 hk1 hR1 f1
  cases ex1 with
  | normal =>
    refine wpIn_seq (wpIn_seq ((wpIn_wide (n:=0)).2 (VC.sound (show VC Tryz.prog R1 E1 S1 (PreG 131 o f) from hq1) m w _ _ w1 (fun _=>False) (fun _ h=>h.elim) hR1 _ ?_)))
    rintro ex2 G2 E2 S2 a2 w2 ⟨rfl,b,h4,h7,hb0,hbo,hbf,hb1,hb2,hn9⟩ hk2 hR2 f2
    refine wpIn_block (range_stop (br:=br) hR2 (fun b hb=>.inl hb) hn9 h7 h4 (by omega) (fun r hr hst hpe=>?_) (fun G' r F' w' hR' hD=>?_))
    · have hI:HoldR S2.nx (S2.nx+1) 0 r (startR S2 r 0):=by
        refine⟨?_,?_,?_,?_,?_,?_⟩
        · simp[startR]
        · simp[startR]
        · have n1:¬ 0=S2.nx:=by omega
          simp[startR,n1,hb0]
        · simp[startR]
        · simp[startR]
        · simp[startR]
      have n1:¬ b=S2.nx:=by omega
      have n2:¬ b=S2.nx+1:=by omega
      have n3:¬ b+1=S2.nx:=by omega
      have n4:¬ b+1=S2.nx+1:=by omega
      refine l_breaks o f hol hfl ho hf (S2.nx+1) b (b+1) _ _ _ (HoldR.hand (d:=S2.nx) (b4:=0) hB1 hr hst _) hI (endR S2 (if br then doneR r else r) 0) ⟨rfl,rfl,rfl,Nat.le_refl _⟩ (fun hq S _ hS=>?_) (fun hq S hS=>?_) (show b<S2.nx+2 by omega) (show b+1<S2.nx+2 by omega) (by simp[startR,n1,n2,hbo]) (by simp[startR,n1,n3,hbf])
      · rw[hbr] at hq
        subst hq
        exact hS.elder (by omega)
      · rw[hbr] at hq
        subst hq
        exact hS.elder (by omega)
    · have hE0:(endR S2 r 0).B 0=some [.d (dB false)]:=by
        have n1:¬ 0=S2.nx:=by omega
        simp[endR,n1]
      have hEd:(endR S2 r 0).B S2.nx=some dfC:=by simp[endR]
      have hdf:({ tmps:=a2.tmps,defers:=[{ target:=Target.collected w2.heap.size,args:=#[] }]++a2.defers }:Act)={ tmps:=a2.tmps,defers:=[{ target:=Target.collected w2.heap.size,args:=#[] }] }:=by rw[hR2.defers];rfl
      rw[hdf]
      have hgl:(endR S2 r 0).gl cleanAt=none:=by
        show S2.gl cleanAt=none
        rw[hk2.gl,hk1.gl];rfl
      cases br
      · show (Code.seq _ _).wpIn _ _ _ _ _ _
        obtain⟨x,u,w3,G3,hrun,hx,_,hR4,f3⟩:=does_store (P:=Tryz.prog) (o:=o2) (cs:=[.d (dB false)]) (s:=.d (dB true)) h2o hR' (show evalO E2 (.tmp 4)=some _ from h4) hE0 (by rfl) rfl (by rfl:szOf Tryz.prog 4=some 1) rfl (by simp)
        refine wpIn_seq (region_one h2g (by rw[h2o];intro c h;cases h) (by rw[h2o];intro c h;cases h) hrun hx ?_)
        refine wpIn_ret ?_
        rw[h2d]
        exact grew_end (a:=a2) (d:=S2.nx) (v:=true) hR4 h4 (by simp[St.set]) (by
          have n1:¬ S2.nx=0:=by omega
          simp[St.set,upd,n1,hEd]) (f3.obj _ _ hD) hgl
      · exact grew_end (a:=a2) (d:=S2.nx) (v:=false) hR' h4 hE0 hEd hD hgl
  | _=>exact absurd hq1.1 (by simp)
theorem p_spGrew (o f:List Def) (hol:o.length≤1048576) (hfl:f.length≤1048576) (ho:∀ d∈o,DefSm d) (hf:∀ d∈f,DefSm d):PCall Tryz.prog gl 22 [defsD o,defsD f] (dB (!brkB o f)):=by
  have hG:=p_spGrows (gl:=gl) o f hol hfl ho hf
  have he:=grows_empty o f
  generalize growsG o f=l at hG he
  rw[← he]
  refine PCall.by_ (md:=[]) Tryz.func22 rfl (by kernel_rfl) (n:=10) Tryz.ntmps22 (by simp) (by decide) rfl ?_
  simp
  repeat refine⟨DrawT.mk (by kernel_rfl),?_⟩
  refine CallT.p0 (hG) (by first | rfl | (simp;done)|(simp;done)) (by first | rfl | (simp;done)|(simp;rfl)|(simp;done)) ?_
  simp
  cases l with
  | nil=>simp
  | cons x r=>simp;done
theorem w_szDefS (l:List Def) (hl:l.length≤4611686018427387904) (hok:∀ d∈l,DefOk d) (left:Int) (h0:0≤left) (hb:left≤4611686018427387904):PCall Tryz.prog gl 21 [defsD l,dI left] (dI (szRow szD l left)) :=
  p_szDefS_of l hl (fun i hi r h0 hb=>p_szDef l[i] (hok _ (List.getElem_mem hi)) r h0 hb) (fun x _=>szD_le x) left h0 hb
theorem w_toDefS (l:List Def) (hl:l.length≤1048576) (hs:∀ d∈l,DefSm d):PCall Tryz.prog gl 23 [defsD l] (defsD l):=p_toDefS_of l hl fun i hi=>p_toDef l[i] (hs _ (List.getElem_mem hi))
theorem w_eqDefS (l:List Def) (hl:l.length≤4611686018427387904) (hok:∀ d∈l,DefOk d):PCall Tryz.prog gl 25 [defsD l,defsD l] (dB true):=p_eqDefS_of l hl fun i hi=>p_eqDef l[i] (hok _ (List.getElem_mem hi))
theorem w_small (l:List Def) (r:Int) (hr:r≤1048576) (hr0:0≤r) (h:0≤szRow szD l r):(l.length≤1048576∧∀ d∈l,DefSm d)∧szRow szD l r≤r:=by
  obtain⟨a,b⟩:=szRow_small (f:=szD) (l:=l) (fun x _=>szD_le x) (r:=r) (by omega) h
  refine⟨⟨by omega,fun d hd=>?_⟩,by have:=szRow_le (l:=l) (fun x _=>szD_le x) r (by omega);omega⟩
  obtain⟨q,q1,q2,q3⟩:=b d hd
  exact szD_small d q (by omega) q3
set_option maxHeartbeats 4000000 in
theorem p_lawGrew (o f:List Def) (hol:o.length≤4611686018427387904) (hoo:∀ d∈o,DefOk d) (hfl:f.length≤4611686018427387904) (hfo:∀ d∈f,DefOk d):PCall Tryz.prog (fun _=>none) 5 [defsD o,defsD f] (dB true):=by
  refine PCall.by_ (md:=[]) Tryz.func5 rfl (by kernel_rfl) (n:=45) Tryz.ntmps5 (by simp) (by decide) rfl ?_
  simp
  repeat refine⟨DrawT.mk (by kernel_rfl),?_⟩
  refine CallT.p0 (w_szDefS o hol hoo 1048576 (by omega) (by omega)) (by first | rfl | (simp;done)|(simp;done)) (by first | rfl | (simp;done)|(simp;rfl)|(simp;done)) ?_
  simp
  refine BrT.dec (fun c1=>?_) (fun c1=>?_)
  case refine_1=>simp[c1]
  have hs1:=w_small o 1048576 (by omega) (by omega) (Int.not_lt.1 c1)
  simp[c1]
  repeat refine⟨DrawT.mk (by kernel_rfl),?_⟩
  refine CallT.p0 (w_szDefS f hfl hfo (szRow szD o 1048576) (Int.not_lt.1 c1) (by have:=hs1.2;omega)) (by first | rfl | (simp;done)|(simp[c1];done)) (by first | rfl | (simp;done)|(simp;rfl)|(simp[c1];done)) ?_
  simp
  refine BrT.dec (fun c2=>?_) (fun c2=>?_)
  case refine_1=>simp[c2]
  have hs2:=w_small f (szRow szD o 1048576) (by have:=hs1.2;omega) (Int.not_lt.1 c1) (Int.not_lt.1 c2)
  simp[c2]
  repeat refine⟨DrawT.mk (by kernel_rfl),?_⟩
  refine CallT.p0 (w_toDefS o hs1.1.1 hs1.1.2) (by first | rfl | (simp;done)|(simp[c1,c2];done)) (by first | rfl | (simp;done)|(simp;rfl)|(simp[c1,c2];done)) ?_
  simp
  repeat refine⟨DrawT.mk (by kernel_rfl),?_⟩
  refine CallT.p0 (w_toDefS f hs2.1.1 hs2.1.2) (by first | rfl | (simp;done)|(simp[c1,c2];done)) (by first | rfl | (simp;done)|(simp;rfl)|(simp[c1,c2];done)) ?_
  simp
  repeat refine⟨DrawT.mk (by kernel_rfl),?_⟩
  refine CallT.p0 (p_spGrew o f hs1.1.1 hs2.1.1 hs1.1.2 hs2.1.2) (by first | rfl | (simp;done)|(simp[c1,c2];done)) (by first | rfl | (simp;done)|(simp;rfl)|(simp[c1,c2];done)) ?_
  simp
  repeat refine⟨DrawT.mk (by kernel_rfl),?_⟩
  refine CallT.p0 (w_toDefS o hs1.1.1 hs1.1.2) (by first | rfl | (simp;done)|(simp[c1,c2];done)) (by first | rfl | (simp;done)|(simp;rfl)|(simp[c1,c2];done)) ?_
  simp
  repeat refine⟨DrawT.mk (by kernel_rfl),?_⟩
  refine CallT.p0 (w_toDefS f hs2.1.1 hs2.1.2) (by first | rfl | (simp;done)|(simp[c1,c2];done)) (by first | rfl | (simp;done)|(simp;rfl)|(simp[c1,c2];done)) ?_
  simp
  repeat refine⟨DrawT.mk (by kernel_rfl),?_⟩
  refine CallT.p0 (p_imGrew o f hs1.1.1 hs2.1.1 hs1.1.2 hs2.1.2) (by first | rfl | (simp;done)|(simp[c1,c2];done)) (by first | rfl | (simp;done)|(simp;rfl)|(simp[c1,c2];done)) ?_
  simp
  repeat refine⟨DrawT.mk (by kernel_rfl),?_⟩
  refine CallT.p0 (w_toDefS o hs1.1.1 hs1.1.2) (by first | rfl | (simp;done)|(simp[c1,c2];done)) (by first | rfl | (simp;done)|(simp;rfl)|(simp[c1,c2];done)) ?_
  simp
  repeat refine⟨DrawT.mk (by kernel_rfl),?_⟩
  refine CallT.p0 (w_eqDefS o hol hoo) (by first | rfl | (simp;done)|(simp[c1,c2];done)) (by first | rfl | (simp;done)|(simp;rfl)|(simp[c1,c2];done)) ?_
  simp
  repeat refine⟨DrawT.mk (by kernel_rfl),?_⟩
  refine CallT.p0 (w_toDefS f hs2.1.1 hs2.1.2) (by first | rfl | (simp;done)|(simp[c1,c2];done)) (by first | rfl | (simp;done)|(simp;rfl)|(simp[c1,c2];done)) ?_
  simp
  repeat refine⟨DrawT.mk (by kernel_rfl),?_⟩
  refine CallT.p0 (w_eqDefS f hfl hfo) (by first | rfl | (simp;done)|(simp[c1,c2];done)) (by first | rfl | (simp;done)|(simp;rfl)|(simp[c1,c2];done)) ?_
  simp
end Go.Proofs.YtlmpjblmmpddeaaGreat
namespace Go.Proofs.YtlmpjblmmpddeaaGreat
open Go.Sh
theorem opens_names (t:TypeId) (ht:Tryz.prog.underlying t=some (.slice 9)):∀ n,Opens Tryz.prog n t 1 (fun l:List ByteArray=>[namesD l]) (fun l=>l.length≤8796093022207∧∀ s∈l,s.size≤140737488351232)
  | 0=>Opens.zero
  | n + 1 => Opens.map (fun l => l) (fun l _ => by simp only [namesD, map_flat]) (fun l h => ⟨by have := h.1; omega, h.2⟩)
      (Opens.slice (k:=1) (by_:=16) (e:=fun s:ByteArray=>[dS s]) ht (by kernel_rfl) (by omega) (by kernel_rfl) (Opens.string (by kernel_rfl) n))
theorem names_ok {l:List ByteArray} (h:l.length≤8796093022207∧∀ s∈l,s.size≤140737488351232):NamesOk l:=⟨by omega,fun s hs=>by have:=h.2 s hs;omega⟩
theorem opens_val:∀ n,Opens Tryz.prog n 246 5 Val.cells WF
  | 0=>Opens.zero
  | n+1=>by
    have hl:Opens Tryz.prog n 244 1 (fun l:List Val=>[.ps (l.flatMap Val.cells) l.length]) (fun l=>l.length≤140737488351232∧∀ v∈l,WF v):=by
      cases n with
      | zero=>exact Opens.zero
      | succ m=>exact (Opens.slice (k:=5) (by_:=80) (by kernel_rfl) (by kernel_rfl) (by omega) (by kernel_rfl) (opens_val m)).mono (fun l h=>⟨by have:=h.1;omega,h.2⟩)
    refine Opens.map (fun p:Int×Int×ByteArray×List Val×List ByteArray×Unit=>Val.mk p.1 p.2.1 p.2.2.1 p.2.2.2.1 p.2.2.2.2.1) ?_ ?_ (OpensFrom.struct (by kernel_rfl) (by kernel_rfl)
      (.cons (k:=1) (s:=3) (by kernel_rfl) (by kernel_rfl) (Opens.int (k:=.i64) (by kernel_rfl) n)
      (.cons (k:=1) (s:=3) (by kernel_rfl) (by kernel_rfl) (Opens.int (k:=.i64) (by kernel_rfl) n)
      (.cons (k:=1) (s:=9) (by kernel_rfl) (by kernel_rfl) (Opens.string (by kernel_rfl) n)
      (.cons (k:=1) (s:=244) (by kernel_rfl) (by kernel_rfl) hl
      (.cons (k:=1) (s:=27) (by kernel_rfl) (by kernel_rfl) (opens_names _ (by kernel_rfl) n) .nil))))))
    · intro p _;simp[Val.cells,valsCells_row]
    · unfold IntKind.min IntKind.max
      rintro ⟨a,b,c,d,e,u⟩ ⟨h1,h2,h3,h4,h5,_⟩
      exact .mk (by omega) (names_ok h5) (by omega) h4.2
end Go.Proofs.YtlmpjblmmpddeaaGreat
namespace Go.Proofs.YtlmpjblmmpddeaaGreat
open Go.Sh
theorem opens_typ:∀ n,Opens Tryz.prog n 199 3 Typ.cells (TLe 4611686018427387904)
  | 0=>Opens.zero
  | n+1=>by
    have hl:Opens Tryz.prog n 197 1 (fun l:List Typ=>[.ps (l.flatMap Typ.cells) l.length]) (fun l=>l.length≤140737488351232∧∀ v∈l,TLe 4611686018427387904 v):=by
      cases n with
      | zero=>exact Opens.zero
      | succ m=>exact (Opens.slice (k:=3) (by_:=48) (by kernel_rfl) (by kernel_rfl) (by omega) (by kernel_rfl) (opens_typ m)).mono (fun l h=>⟨by have:=h.1;omega,h.2⟩)
    refine Opens.map (fun p:ByteArray×List Typ×Bool×Unit=>Typ.mk p.1 p.2.1 p.2.2.1) ?_ ?_ (OpensFrom.struct (by kernel_rfl) (by kernel_rfl)
      (.cons (k:=1) (s:=9) (by kernel_rfl) (by kernel_rfl) (Opens.string (by kernel_rfl) n)
      (.cons (k:=1) (s:=197) (by kernel_rfl) (by kernel_rfl) hl
      (.cons (k:=1) (s:=4) (by kernel_rfl) (by kernel_rfl) (Opens.bool (by kernel_rfl) n) .nil))))
    · intro p _;simp[Typ.cells,typsCells_row]
    · rintro ⟨a,b,c,u⟩ ⟨h1,h2,h3,_⟩
      exact .mk (by omega) (by have:=h2.1;omega) h2.2
theorem opens_row {α:Type}{s:TypeId}{t:TypeId}{k by_:Nat}{e:α→List D}{ok:α→Prop} (ht:Tryz.prog.underlying t=some (.slice s)) (hs:Tryz.prog.cellsOf s=k) (hk:0<k) (hby:Tryz.prog.bytesOf s=by_) (hb:1≤by_) (h:∀ n,Opens Tryz.prog n s k e ok) :
    ∀ n,Opens Tryz.prog n t 1 (fun l:List α=>[.ps (l.flatMap e) l.length]) (fun l=>l.length≤4611686018427387904∧∀ x∈l,ok x)
  | 0=>Opens.zero
  | n+1=>(Opens.slice (k:=k) (by_:=by_) ht hs hk hby (h n)).mono (fun l h=>⟨Nat.le_trans (Nat.le_trans (Nat.le_mul_of_pos_right l.length hb) h.1) (by omega),h.2⟩)
theorem opens_arg (n:Nat):Opens Tryz.prog n 248 10 Arg.cells ArgOk:=by
  cases n with
  | zero=>exact Opens.zero
  | succ n =>
    refine Opens.map (fun p:ByteArray×Typ×Bool×Val×Unit=>Arg.mk p.1 p.2.1 p.2.2.1 p.2.2.2.1) ?_ ?_ (OpensFrom.struct (by kernel_rfl) (by kernel_rfl)
      (.cons (k:=1) (s:=9) (by kernel_rfl) (by kernel_rfl) (Opens.string (by kernel_rfl) n)
      (.cons (k:=3) (s:=199) (by kernel_rfl) (by kernel_rfl) (opens_typ n)
      (.cons (k:=1) (s:=4) (by kernel_rfl) (by kernel_rfl) (Opens.bool (by kernel_rfl) n)
      (.cons (k:=5) (s:=246) (by kernel_rfl) (by kernel_rfl) (opens_val n) .nil)))))
    · intro p _;simp[Arg.cells]
    · rintro ⟨a,b,c,d,u⟩ ⟨h1,h2,h3,h4,_⟩
      exact⟨Nat.le_trans h1 (by omega),h2,h4⟩
theorem opens_fld (n:Nat):Opens Tryz.prog n 201 5 Fld.cells FldOk:=by
  cases n with
  | zero=>exact Opens.zero
  | succ n =>
    refine Opens.map (fun p:ByteArray×List Arg×Typ×Unit=>Fld.mk p.1 p.2.1 p.2.2.1) ?_ ?_ (OpensFrom.struct (by kernel_rfl) (by kernel_rfl)
      (.cons (k:=1) (s:=9) (by kernel_rfl) (by kernel_rfl) (Opens.string (by kernel_rfl) n)
      (.cons (k:=1) (s:=196) (by kernel_rfl) (by kernel_rfl) (opens_row (k:=10) (by_:=152) (s:=248) (by kernel_rfl) (by kernel_rfl) (by omega) (by kernel_rfl) (by omega) opens_arg n)
      (.cons (k:=3) (s:=199) (by kernel_rfl) (by kernel_rfl) (opens_typ n) .nil))))
    · intro p _;simp[Fld.cells,args_row]
    · rintro ⟨a,b,c,u⟩ ⟨h1,h2,h3,_⟩
      exact⟨Nat.le_trans h1 (by omega),h2,h3⟩
theorem opens_def (n:Nat):Opens Tryz.prog n 92 4 Def.cells DefOk:=by
  cases n with
  | zero=>exact Opens.zero
  | succ n =>
    refine Opens.map (fun p:ByteArray×Int×List Fld×List ByteArray×Unit=>Def.mk p.1 p.2.1 p.2.2.1 p.2.2.2.1) ?_ ?_ (OpensFrom.struct (by kernel_rfl) (by kernel_rfl)
      (.cons (k:=1) (s:=9) (by kernel_rfl) (by kernel_rfl) (Opens.string (by kernel_rfl) n)
      (.cons (k:=1) (s:=3) (by kernel_rfl) (by kernel_rfl) (Opens.int (k:=.i64) (by kernel_rfl) n)
      (.cons (k:=1) (s:=90) (by kernel_rfl) (by kernel_rfl) (opens_row (k:=5) (by_:=88) (s:=201) (by kernel_rfl) (by kernel_rfl) (by omega) (by kernel_rfl) (by omega) opens_fld n)
      (.cons (k:=1) (s:=27) (by kernel_rfl) (by kernel_rfl) (opens_names _ (by kernel_rfl) n) .nil)))))
    · intro p _;simp[Def.cells,flds_row]
    · unfold IntKind.min IntKind.max
      rintro ⟨a,b,c,d,u⟩ ⟨h1,h2,h3,h4,_⟩
      exact⟨Nat.le_trans h1 (by omega),h3,names_ok h4⟩
theorem opens_defs:∀ n,Opens Tryz.prog n 42 1 (fun l:List Def=>[.ps (l.flatMap Def.cells) l.length]) (fun l=>l.length≤4611686018427387904∧∀ x∈l,DefOk x) :=
  opens_row (k:=4) (by_:=72) (by kernel_rfl) (by kernel_rfl) (by omega) (by kernel_rfl) (by omega) opens_def
end Go.Proofs.YtlmpjblmmpddeaaGreat
