/- If and what follows it, one behind another. -/
import Derived.Test.YtlmpjblmmpddeaaGreatMg5
import Derived.Test.YtlmpjblmmpddeaaGreatMg4
set_option linter.unusedVariables false
set_option linter.unusedSimpArgs false
set_option maxRecDepth 100000
namespace Go.Proofs.YtlmpjblmmpddeaaGreat
open Go.Sh
variable {gl:Nat→Option D}
def fldI (l:List Fld) (s:ByteArray):Int:=match l.findIdx? (fun f=>decide (f.name=s)) with | some j=>j | none=>-1
theorem fldI_found {l:List Fld}{s:ByteArray}{i:Nat} (hi:i<l.length) (h:∀ j (hj:j<l.length),j<i→l[j].name≠s) (he:l[i].name=s):fldI l s=i:=by
  have:l.findIdx? (fun f=>decide (f.name=s))=some i:=by
    rw[List.findIdx?_eq_some_iff_getElem]
    exact⟨hi,by simp[he],fun j hj=>by simpa using h j (by omega) hj⟩
  unfold fldI;rw[this]
theorem fldI_none {l:List Fld}{s:ByteArray} (h:∀ j (hj:j<l.length),l[j].name≠s):fldI l s = -1:=by
  have:l.findIdx? (fun f=>decide (f.name=s))=none:=by
    rw[List.findIdx?_eq_none_iff]
    intro d hd
    obtain⟨j,hj,rfl⟩:=List.getElem_of_mem hd
    simpa using h j hj
  unfold fldI;rw[this]
theorem fldI_at (l:List Fld) (s:ByteArray):(fldI l s = -1∧fldAt l s=none)∨∃ (j:Nat) (h:j<l.length),fldI l s=j∧fldAt l s=some l[j]:=by
  unfold fldI fldAt
  cases h:l.findIdx? (fun f=>decide (f.name=s)) with
  | none =>
    refine .inl ⟨rfl,?_⟩
    rw[List.findIdx?_eq_none_iff] at h
    rw[List.find?_eq_none]
    exact fun x hx=>by simpa using h x hx
  | some j =>
    obtain⟨h1,h2,h3⟩:=List.findIdx?_eq_some_iff_getElem.1 h
    refine .inr ⟨j,h1,rfl,?_⟩
    rw[List.find?_eq_some_iff_getElem]
    exact⟨h2,j,h1,rfl,fun k hk=>by simpa using h3 k hk⟩
set_option maxHeartbeats 2000000 in
theorem p_l2Field (d:Def) (s:ByteArray) (hl:d.flds.length≤4611686018427387904):PCall Tryz.prog gl 146 [d.d,dS s] (dI (fldI d.flds s)):=by
  obtain⟨dn,kind,l,words⟩:=d
  simp only at hl
  refine PCall.by_ (md:=[]) Tryz.func146 rfl (by kernel_rfl) (n:=22) Tryz.ntmps146 (by simp) (by decide) rfl ?_
  simp[Def.cells]
  refine LoopT.round (fun E S=>∃ (i:Nat),(i≤l.length)∧E 2=some (.op 0 0)∧E 1=some (.d (dS s))∧E 5=some (.d (dI i))∧S.B 0=some ([.d (dS dn), .d (dI kind), .d (fldsD l), .d (namesD words)])∧(∀ j (hj:j<l.length),j<i→l[j].name≠s)) (upTo 5 l.length) ⟨0,by simp⟩ ?_
  rintro E S hk ⟨i,hi,h2,h1,h5,hB0,hp⟩
  have hn:S.n=22:=by first | (simpa using hk.n)|(have hh:=hk.n;simp[Def.cells] at hh;exact hh)
  have hg:S.gl=gl:=by first | (simpa using hk.gl)|(have hh:=hk.gl;simp[Def.cells] at hh;exact hh)
  have hmd:S.md=[]:=by first | (simpa using hk.md)|(have hh:=hk.md;simp[Def.cells] at hh;exact hh)
  simp[h2,h5,hB0,hn,hg]
  have w:=wrap64 (n:=(i:Int)+1) (by omega) (by omega)
  refine BrT.dec (fun c=>?_) (fun c=>?_)
  · have hi2:i<l.length:=by omega
    have hlen:=flds_len l
    have hfit:i*5+5≤l.length*5:=by omega
    have hat:=flds_at l hi2
    have hfound:=fldI_found hi2 hp
    have hnext:l[i].name≠s→∀ j (hj:j<l.length),j<i+1→l[j].name≠s:=fun hne j hj hji=>by
      by_cases e:j=i
      · subst e;exact hne
      · exact hp j hj (by omega)
    generalize l[i]=a at hat hfound hnext
    obtain⟨nm,args,ty⟩:=a
    simp only at hfound hnext
    have hz0:(fldsCells l)[i*5]?=some (dS nm):=by
      have e:(((fldsCells l).drop (i*5)).take 5)[0]?=some (dS nm):=by rw[hat];rfl
      rw[List.getElem?_take_of_lt (by omega),List.getElem?_drop] at e
      exact e
    have hg0:=(List.getElem?_eq_some_iff.1 hz0).2
    simp[h2,h1,h5,hB0,hn,hg,c,hlen,hg0]
    refine BrT.dec (fun e=>?_) (fun e=>?_)
    · have hz:=hfound e
      simp[h5,hn,e,hz]
    · simp[h2,h1,h5,hB0,hn,w,e]
      exact⟨⟨i+1,hi2,by omega,hnext e⟩,upTo_lt h5 (by simp) hi2⟩
  · have hz:=fldI_none fun j hj=>hp j hj (by omega)
    simp[hn,c,hz]
def treeV (ns:List ByteArray) (l:List Val) (s:ByteArray):Option Val:=((ns.zip l).find? fun p=>decide (p.1=s)).map (·.2)
def zV0:Val:=.mk 0 0 noS [] []
theorem treeV_some (ns:List ByteArray) (l:List Val) (s:ByteArray) (h:ns.length≤l.length):(treeV ns l s).isSome=memB s ns:=by
  unfold treeV
  rw[Option.isSome_map,Bool.eq_iff_iff,List.find?_isSome,memB_iff]
  constructor
  · rintro ⟨p,hp,e⟩
    have:=(List.of_mem_zip (a:=p.1) (b:=p.2) hp).1
    simp at e;rw[← e];exact this
  · intro hm
    obtain⟨j,hj,rfl⟩:=List.getElem_of_mem hm
    exact⟨(ns[j],l[j]'(by omega)),List.mem_iff_getElem.2 ⟨j,by simp;omega,by simp⟩,by simp⟩
theorem treeV_found {ns:List ByteArray}{l:List Val}{s:ByteArray}{i:Nat} (hi:i<ns.length) (hl:i<l.length) (h:∀ j (hj:j<ns.length),j<i→ns[j]≠s) (he:ns[i]=s):treeV ns l s=some l[i]:=by
  unfold treeV
  have:(ns.zip l).find? (fun p=>decide (p.1=s))=some (ns[i],l[i]):=by
    rw[List.find?_eq_some_iff_getElem]
    exact⟨by simp[he],i,by simp;omega,by simp,fun j hj=>by simpa using h j (by omega) hj⟩
  rw[this];rfl
theorem treeV_none {ns:List ByteArray}{l:List Val}{s:ByteArray} (h:∀ j (hj:j<ns.length),ns[j]≠s):treeV ns l s=none:=by
  unfold treeV
  have:(ns.zip l).find? (fun p=>decide (p.1=s))=none:=by
    rw[List.find?_eq_none]
    intro p hp
    obtain⟨j,hj,e⟩:=List.getElem_of_mem (List.of_mem_zip (a:=p.1) (b:=p.2) hp).1
    simpa[← e] using h j hj
  rw[this];rfl
def treeK (k:Int) (ns:List ByteArray) (l:List Val) (s:ByteArray):Option Val:=if k=5 then treeV ns l s else none
set_option maxHeartbeats 2000000 in
theorem p_l1TreeT (k n:Int) (t:ByteArray) (l:List Val) (ns:List ByteArray) (x:ByteArray) (h1:k=5→ns.length≤l.length) (h2:l.length≤4611686018427387904) (h3:ns.length≤4611686018427387904):PCall Tryz.prog gl 176 [(Val.mk k n t l ns).d,dS x] (.tup [((treeK k ns l x).getD zV0).d,dB (treeK k ns l x).isSome]):=by
  by_cases hk:k=5
  · subst hk
    have h1:=h1 rfl
    have hr:treeK 5 ns l x=treeV ns l x:=rfl
    rw[hr]
    refine PCall.by_ (md:=[]) Tryz.func176 rfl (by kernel_rfl) (n:=32) Tryz.ntmps176 (by simp) (by decide) rfl ?_
    simp[Val.cells]
    refine LoopT.round (fun E S=>∃ (i:Nat),(i≤ns.length)∧E 1=some (.d (dS x))∧E 2=some (.op 0 0)∧E 4=some (.op 1 0)∧E 6=some (.d (dI i))∧S.B 0=some ([.d (dI 5), .d (dI n), .d (dS t), .d (valsD l), .d (namesD ns)])∧S.B 1=some ([.d (dI 0), .d (dI 0), .d (dS noS), .fl [] 0, .fl [] 0])∧(∀ j (hj:j<ns.length),j<i→ns[j]≠x)) (upTo 6 ns.length) ⟨0,by simp⟩ ?_
    rintro E S hk ⟨i,hi,h1,h2,h4,h6,hB0,hB1,hp⟩
    have hn:S.n=32:=by first | (simpa using hk.n)|(have hh:=hk.n;simp[Val.cells] at hh;exact hh)
    have hg:S.gl=gl:=by first | (simpa using hk.gl)|(have hh:=hk.gl;simp[Val.cells] at hh;exact hh)
    have hmd:S.md=[]:=by first | (simpa using hk.md)|(have hh:=hk.md;simp[Val.cells] at hh;exact hh)
    simp[h2,h6,hB0,hn,hg]
    have w:=wrap64 (n:=(i:Int)+1) (by omega) (by omega)
    refine BrT.dec (fun c=>?_) (fun c=>?_)
    · have hi2:i<ns.length:=by omega
      have hi3:i<l.length:=by omega
      have hlen:=valsCells_len l
      have hfit:i*5+5≤l.length*5:=by omega
      have hat:=valsCells_at l hi3
      have hfound:=treeV_found hi2 hi3 hp
      generalize l[i]=v at hat hfound
      cases v with
      | mk vk vn vt vl vns =>
      simp only[Val.cells] at hat
      simp[h1,h2,h6,hB0,hn,hg,c]
      refine BrT.dec (fun e=>?_) (fun e=>?_)
      · have h:=hfound e
        simp[Val.cells,h2,h4,h6,hB0,hB1,hn,hi3,hlen,hfit,hat,e,h]
      · simp[h1,h2,h4,h6,hB0,hB1,hn,w,e]
        refine⟨⟨i+1,by omega,by omega,fun j hj hji=>?_⟩,upTo_lt h6 (by simp) hi2⟩
        rcases Nat.lt_or_ge j i with c' | c'
        · exact hp j hj c'
        · have:j=i:=by omega
          subst this;exact e
    · have h:=treeV_none (l:=l) fun j hj=>hp j hj (by omega)
      simp[h4,hB1,hn,c,h]
      rfl
  · have hr:treeK k ns l x=none:=if_neg hk
    rw[hr]
    refine PCall.by_ (md:=[]) Tryz.func176 rfl (by kernel_rfl) (n:=32) Tryz.ntmps176 (by simp) (by decide) rfl ?_
    simp[Val.cells]
    refine LoopT.rounds 1 ?_
    simp[RndT_succ]
    by_cases hn0:ns=[]
    · subst hn0
      simp
      rfl
    · have hn1:0<ns.length:=List.length_pos_iff.2 hn0
      simp[hn1,hk]
      rfl
theorem arg_eq (a:Arg):argB a=(typB a.ty 3&&okB a.els 3 true&&(a.has || isZero a.els)):=by
  have:argB a=(typB a.ty 3&&elseB a.has a.els):=rfl
  rw[this]
  unfold elseB
  cases a.has with
  | true=>simp
  | false =>
    cases hz:isZero a.els with
    | true=>simp[zero_ok hz]
    | false=>simp
set_option maxHeartbeats 4000000 in
theorem p_l2Args (l:List Arg) (hl:l.length≤1048576) (hok:∀ a∈l,ArgOk a):PCall Tryz.prog gl 115 [argsD l] (dB (argsB l)):=by
  refine PCall.by_ (md:=[]) Tryz.func115 rfl (by kernel_rfl) (n:=61) Tryz.ntmps115 (by simp) (by decide) rfl ?_
  simp
  refine LoopT.round (fun E S=>∃ (i:Nat) (X:SV),(i≤l.length)∧E 0=some (.d (argsD l))∧E 3=some (X)∧E 4=some (.d (dI i))∧(AccD 1 S X (accN Arg.name l i) i)∧(allUp argB l i)) (upTo 4 l.length) ⟨0, .fl [] 0,by simp;exact⟨AccD.nil,allUp_zero _ _⟩⟩ ?_
  rintro E S hk ⟨i,X,hi,h0,h3,h4,hA,hp⟩
  have hn:S.n=61:=by first | (simpa using hk.n)|(have hh:=hk.n;simp at hh;exact hh)
  have hg:S.gl=gl:=by first | (simpa using hk.gl)|(have hh:=hk.gl;simp at hh;exact hh)
  have hmd:S.md=[]:=by first | (simpa using hk.md)|(have hh:=hk.md;simp at hh;exact hh)
  simp[h0,h4,hn,hg]
  have w:=wrap64 (n:=(i:Int)+1) (by omega) (by omega)
  refine BrT.dec (fun c=>?_) (fun c=>?_)
  · have hi2:i<l.length:=by omega
    have hlen:=args_len l
    have hfit:i*10+10≤l.length*10:=by omega
    have hN:=hok _ (List.getElem_mem hi2)
    have bad0:=all_bad (p:=argB) hi2
    have bad:argB l[i]=false→argsB l=false:=fun h=>by simp[argsB,bad0 h]
    have good:=all_take (p:=argB) hi2 hp
    have hat:=args_at l hi2
    have hcl:=accN_len Arg.name l hi
    obtain⟨x,hx⟩:∃ x,l[i].name=x:=⟨_,rfl⟩
    have hsn:=fun S' q h1 h2=>AccD.snoc (f:=Arg.name) (l:=l) (S:=S) (S':=S') (i:=i) (q:=q) hi2 h1 h2 hx.symm
    generalize hav:l[i]=a at hN bad good hat hx
    have hT:=p_l2Type3 (gl:=gl) a.ty hN.2.1
    have hE:=p_l1Ok (gl:=gl) a.els hN.2.2 3 true (by omega) (by omega)
    have hZ:=p_l1Same0 (gl:=gl) a.els hN.2.2
    have hab:=arg_eq a
    obtain⟨nm,ty,has,els⟩:=a
    cases ty with
    | mk t lt b =>
    cases els with
    | mk k n t2 l2 ns =>
    simp only at hab hx
    subst hx
    simp only[Arg.cells,Typ.cells,Val.cells,List.cons_append,List.nil_append] at hat
    have hat_0:=row_get0 hat (by decide) rfl
    have hat_0'':=(List.getElem?_eq_some_iff.1 hat_0).2
    have hat_0':i*10<_:=Nat.lt_of_lt_of_le (by omega) hfit
    have hat_1_3:=row_sub hat 1 3 (by decide)
    have hat_1_3':i*10+1+3≤_:=Nat.le_trans (by omega) hfit
    have hat_4:=row_get hat 4 (by decide) rfl
    have hat_4'':=(List.getElem?_eq_some_iff.1 hat_4).2
    have hat_4':i*10+4<_:=Nat.lt_of_lt_of_le (by omega) hfit
    have hat_5_5:=row_sub hat 5 5 (by decide)
    have hat_5_5':i*10+5+5≤_:=Nat.le_trans (by omega) hfit
    rcases hA with ⟨hi0,hcs,rfl⟩ | ⟨hpos,q,hq0,rfl,hT0⟩
    case' inl=>simp[h0,h3,h4,hn,hmd,c,hat_0',hat_0'',hat_1_3,hat_1_3',hlen]
    case' inr=>simp[h0,h3,h4,hn,hmd,c,hat_0',hat_0'',hat_1_3,hat_1_3',hlen,hT0,hcl]
    all_goals
      refine⟨by unfold appBound;omega,?_⟩
      repeat refine⟨DrawT.mk (by kernel_rfl),?_⟩
      refine CallT.p0 (hT) (by first | rfl | (simp;done)|(simp[hg];done)) (by first | rfl | (simp;done)|(simp;rfl)|(simp[h0,h3,h4,hn,hg,hmd,c,hat_0,hat_0',hat_0'',hat_1_3,hat_1_3',hat_4,hat_4',hat_4'',hat_5_5,hat_5_5',hi2,w,hlen,hfit,hat];done)) ?_
      simp[hn]
      refine BrT.mk (fun c1=>?_) (fun c1=>?_)
      case refine_2=>(have hq:=bad (by rw[hab,c1];rfl);simp[hn,c1,hq])
      simp[h0,h4,hn,c,hat_5_5,hat_5_5',hlen,c1]
      repeat refine⟨DrawT.mk (by kernel_rfl),?_⟩
      refine CallT.p0 (hE) (by first | rfl | (simp;done)|(simp[hg];done)) (by first | rfl | (simp;done)|(simp;rfl)|(simp[h0,h3,h4,hn,hg,hmd,c,hat_0,hat_0',hat_0'',hat_1_3,hat_1_3',hat_4,hat_4',hat_4'',hat_5_5,hat_5_5',hi2,w,hlen,hfit,hat,c1];done)) ?_
      simp[hn]
      refine BrT.mk (fun c2=>?_) (fun c2=>?_)
      case refine_2=>(have hq:=bad (by rw[hab,c2];simp);simp[hn,c2,hq])
      simp[h0,h4,hn,c,hat_4',hat_4'',hlen,c2]
      refine BrT.mk (fun c3=>?_) (fun c3=>?_)
      case' refine_2 =>
        simp[h0,h4,hn,c,hat_5_5,hat_5_5',hlen,c3]
        repeat refine⟨DrawT.mk (by kernel_rfl),?_⟩
        refine CallT.p0 (hZ) (by first | rfl | (simp;done)|(simp[hg];done)) (by first | rfl | (simp;done)|(simp;rfl)|(simp[h0,h3,h4,hn,hg,hmd,c,hat_0,hat_0',hat_0'',hat_1_3,hat_1_3',hat_4,hat_4',hat_4'',hat_5_5,hat_5_5',hi2,w,hlen,hfit,hat,c1,c2,c3];done)) ?_
        simp[hn]
        refine BrT.mk (fun c4=>?_) (fun c4=>?_)
        case refine_2=>(have hq:=bad (by rw[hab,c3,c4];simp);simp[hn,c4,hq])
        simp[h0,h4,hn,w,c4]
      case' refine_1=>simp[h0,h4,hn,w,c3]
      all_goals
        have hp2:allUp argB l (i+1):=good (by rw[hab,c1,c2];simp[*])
        first
        | exact⟨⟨i+1,hi2,by omega,by subst hi0;exact hsn _ _ (by simp) (by simp),hp2⟩,upTo_lt h4 (by simp) hi2⟩
        | exact⟨⟨i+1,hi2,by omega,hsn _ _ (by simp;omega) (by simp),hp2⟩,upTo_lt h4 (by simp) hi2⟩
  · have hi3:i=l.length:=by omega
    subst hi3
    have hnm:NamesOk (anames l):=⟨by simp;omega,fun s hs=>by
      obtain⟨a,ha,rfl⟩:=List.mem_map.1 hs
      exact (hok a ha).1⟩
    have hX:=hA.names
    have hp:=allUp_all hp
    simp[h3,hn,c]
    refine CallT.p (p_l1Once (anames l) hnm) (by first | rfl | simp[hg]) (by show (match X.toD,some [] with | some x,some r=>some (x::r) | _,_=>none)=_;rw[hX]) ?_
    simp[hn]
    have hq:argsB l=(decide (l.length≤4)&&onceB (anames l)):=by simp[argsB,hp]
    have e:decide ((l.length:Int)≤4)=decide (l.length≤4):=by rw[decide_eq_decide];omega
    refine BrT.mk (fun c1=>?_) (fun c1=>?_)
    case refine_2=>simp[hn,c1,hq]
    simp[h0,hn,c1,hq,e]
theorem fld_ok {f:Fld} (h:FldSm f):FldOk f:=⟨by have:=h.1;omega,⟨by have:=h.2.1.1;omega,fun a ha=>arg_ok (h.2.1.2 a ha)⟩,h.2.2.big⟩
theorem def_ok {d:Def} (h:DefSm d):DefOk d:=⟨by have:=h.1;omega,⟨by have:=h.2.1.1;omega,fun a ha=>fld_ok (h.2.1.2 a ha)⟩,by have:=h.2.2.1;omega,fun s hs=>by have:=h.2.2.2 s hs;omega⟩
def restB (d:Def):Bool:=if d.kind=1∨d.kind=3 then decide (1≤d.flds.length)&&decide (d.flds.length≤8)&&decide (d.words.length=0) else if d.kind=2∨d.kind=4 then decide (d.flds.length=0)&&(decide (1≤d.words.length)&&decide (d.words.length≤8)) else false
def formD (d:Def):Bool:=d.flds.all (fldB (decide (d.kind=3)))&&(nameB d.name&&(!groundB d.name&&(onceB (fnames d.flds)&&(onceB d.words&&restB d))))
theorem once_nil:onceB []=true:=rfl
theorem defForm_eq (d:Def):formD d=defB d:=by
  unfold formD defB restB fldsB
  by_cases h1:d.kind=1∨d.kind=3
  · rw[if_pos h1,if_pos h1]
    by_cases hw:d.words.length=0
    · have:d.words=[]:=List.eq_nil_of_length_eq_zero hw
      rw[this,once_nil]
      cases d.flds.all (fldB (decide (d.kind=3)))<;>cases nameB d.name<;>cases groundB d.name<;>cases onceB (fnames d.flds)<;>simp
    · rw[decide_eq_false hw]
      simp
  · rw[if_neg h1,if_neg h1]
    by_cases h2:d.kind=2∨d.kind=4
    · rw[if_pos h2,if_pos h2]
      by_cases hw:d.flds.length=0
      · have:d.flds=[]:=List.eq_nil_of_length_eq_zero hw
        rw[this]
        have e:onceB (fnames [])=true:=rfl
        rw[e]
        cases nameB d.name<;>cases groundB d.name<;>cases onceB d.words<;>simp
      · rw[decide_eq_false hw]
        simp
    · rw[if_neg h2,if_neg h2]
      simp
set_option maxHeartbeats 4000000 in
theorem p_l2FormD (d:Def) (hd:DefSm d):PCall Tryz.prog gl 53 [d.d] (dB (formD d)):=by
  have hok:=def_ok hd
  have hfd:formD d=(d.flds.all (fldB (decide (d.kind=3)))&&(nameB d.name&&(!groundB d.name&&(onceB (fnames d.flds)&&(onceB d.words&&restB d))))):=rfl
  have hrb:restB d=if d.kind=1∨d.kind=3 then decide (1≤d.flds.length)&&decide (d.flds.length≤8)&&decide (d.words.length=0) else if d.kind=2∨d.kind=4 then decide (d.flds.length=0)&&(decide (1≤d.words.length)&&decide (d.words.length≤8)) else false:=rfl
  obtain⟨dn,kind,l,words⟩:=d
  simp only at hfd hrb
  generalize formD _=z at hfd
  generalize restB _=zr at hfd hrb
  obtain⟨hdn,⟨hl,hok2⟩,hwn⟩:=hok
  obtain⟨_,⟨hls,hsm⟩,_⟩:=hd
  simp only at hdn hl hok2 hwn hls hsm
  refine PCall.by_ (md:=[]) Tryz.func53 rfl (by kernel_rfl) (n:=103) Tryz.ntmps53 (by simp) (by decide) rfl ?_
  simp[Def.cells]
  refine LoopT.round (fun E S=>∃ (i:Nat) (X:SV),(i≤l.length)∧E 1=some (.op 0 0)∧E 3=some (X)∧E 4=some (.d (dI i))∧S.B 0=some ([.d (dS dn), .d (dI kind), .d (fldsD l), .d (namesD words)])∧(AccD 1 S X (accN Fld.name l i) i)∧(allUp (fldB (decide (kind=3))) l i)∧(1≤S.nx)) (upTo 4 l.length) ⟨0, .fl [] 0,by simp;exact⟨AccD.nil,allUp_zero _ _⟩⟩ ?_
  rintro E S hk ⟨i,X,hi,h1,h3,h4,hB0,hA,hp,hx⟩
  have hn:S.n=103:=by first | (simpa using hk.n)|(have hh:=hk.n;simp[Def.cells] at hh;exact hh)
  have hg:S.gl=gl:=by first | (simpa using hk.gl)|(have hh:=hk.gl;simp[Def.cells] at hh;exact hh)
  have hmd:S.md=[]:=by first | (simpa using hk.md)|(have hh:=hk.md;simp[Def.cells] at hh;exact hh)
  simp[h1,h4,hB0,hn,hg]
  have w:=wrap64 (n:=(i:Int)+1) (by omega) (by omega)
  refine BrT.dec (fun c=>?_) (fun c=>?_)
  · have hi2:i<l.length:=by omega
    have hlen:=flds_len l
    have hfit:i*5+5≤l.length*5:=by omega
    have hN:=hok2 _ (List.getElem_mem hi2)
    have hS:=hsm _ (List.getElem_mem hi2)
    have bad:fldB (decide (kind=3)) l[i]=false→z=false:=fun h=>by rw[hfd,all_bad hi2 h];rfl
    have good:=all_take (p:=fldB (decide (kind=3))) hi2 hp
    have hat:=flds_at l hi2
    have hcl:=accN_len Fld.name l hi
    obtain⟨x,hx1⟩:∃ x,l[i].name=x:=⟨_,rfl⟩
    have hsn:=fun S' q h1 h2=>AccD.snoc (f:=Fld.name) (l:=l) (S:=S) (S':=S') (i:=i) (q:=q) hi2 h1 h2 hx1.symm
    generalize hav:l[i]=a at hN hS bad good hat hx1
    have hT:=p_l2Type3 (gl:=gl) a.ty hN.2.2
    have hE:=p_l2Args (gl:=gl) a.args hS.2.1.1 hN.2.1.2
    have hab:fldB (decide (kind=3)) a=(typB a.ty 3&&argsB a.args && !(decide (kind=3)&&decide (0<a.args.length))):=rfl
    obtain⟨nm,args,ty⟩:=a
    cases ty with
    | mk t lt b =>
    simp only at hab hx1
    subst hx1
    simp only[Fld.cells,Typ.cells] at hat
    have hat_0:=row_get0 hat (by decide) rfl
    have hat_0'':=(List.getElem?_eq_some_iff.1 hat_0).2
    have hat_0':i*5<_:=Nat.lt_of_lt_of_le (by omega) hfit
    have hat_1:=row_get hat 1 (by decide) rfl
    have hat_1'':=(List.getElem?_eq_some_iff.1 hat_1).2
    have hat_1':i*5+1<_:=Nat.lt_of_lt_of_le (by omega) hfit
    have hat_2_3:=row_sub hat 2 3 (by decide)
    have hat_2_3':i*5+2+3≤_:=Nat.le_trans (by omega) hfit
    rcases hA with ⟨hi0,hcs,rfl⟩ | ⟨hpos,q,hq0,rfl,hT0⟩
    case' inl=>simp[h1,h3,h4,hB0,hn,hmd,c,hat_0',hat_0'',hat_2_3,hat_2_3',hlen]
    case' inr=>simp[h1,h3,h4,hB0,hn,hmd,c,hat_0',hat_0'',hat_2_3,hat_2_3',hlen,hT0,hcl]
    all_goals
      refine⟨by unfold appBound;omega,?_⟩
      repeat refine⟨DrawT.mk (by kernel_rfl),?_⟩
      refine CallT.p0 (hT) (by first | rfl | (simp;done)|(simp[hg];done)) (by first | rfl | (simp;done)|(simp;rfl)|(simp[Def.cells,h1,h3,h4,hB0,hn,hg,hmd,c,hat_0,hat_0',hat_0'',hat_1,hat_1',hat_1'',hat_2_3,hat_2_3',hi2,w,hlen,hfit,hat];done)) ?_
      simp[hn]
      refine BrT.mk (fun c1=>?_) (fun c1=>?_)
      case refine_2=>(have hq:=bad (by rw[hab,c1];rfl);simp[hn,c1,hq])
      simp[h1,h4,hB0,hn,c,hat_1',hat_1'',hlen,c1]
      repeat refine⟨DrawT.mk (by kernel_rfl),?_⟩
      refine CallT.p0 (hE) (by first | rfl | (simp;done)|(simp[hg];done)) (by first | rfl | (simp;done)|(simp;rfl)|(simp[Def.cells,h1,h3,h4,hB0,hn,hg,hmd,c,hat_0,hat_0',hat_0'',hat_1,hat_1',hat_1'',hat_2_3,hat_2_3',hi2,w,hlen,hfit,hat,c1];done)) ?_
      simp[hn]
      refine BrT.mk (fun c2=>?_) (fun c2=>?_)
      case refine_2=>(have hq:=bad (by rw[hab,c2];simp);simp[hn,c2,hq])
      simp[h1,hB0,hn,c2]
      refine BrT.dec (fun c3=>?_) (fun c3=>?_)
      case' refine_1 =>
        simp[h1,h4,hB0,hn,c,hat_1',hat_1'',hlen,c3]
        refine BrT.dec (fun c4=>?_) (fun c4=>?_)
        case refine_1=>(have hq:=bad (by rw[hab,c3];simp[c1,c2];omega);simp[hn,c4,hq])
        simp[h1,h4,hB0,hn,w,c3,c4]
      case' refine_2=>simp[h1,h4,hB0,hn,w,c3]
      all_goals
        have hp2:allUp (fldB (decide (kind=3))) l (i+1):=good (by rw[hab,c1,c2];simp[*]<;>omega)
        first
        | exact⟨⟨i+1,hi2,by omega,by subst hi0;exact hsn _ _ (by simp) (by simp),by simpa[c3] using hp2⟩,upTo_lt h4 (by simp) hi2⟩
        | exact⟨⟨i+1,hi2,by omega,hsn _ _ (by simp;omega) (by simp),by simpa[c3] using hp2⟩,upTo_lt h4 (by simp) hi2⟩
  · have hi3:i=l.length:=by omega
    subst hi3
    have hnm:NamesOk (fnames l):=⟨by simp;omega,fun s hs=>by
      obtain⟨a,ha,rfl⟩:=List.mem_map.1 hs
      exact (hok2 a ha).1⟩
    have hX:=hA.names
    have hp:=allUp_all hp
    rw[hp,Bool.true_and] at hfd
    simp[h1,hB0,hn,c]
    repeat refine⟨DrawT.mk (by kernel_rfl),?_⟩
    refine CallT.p0 (p_l1Name dn hdn) (by first | rfl | (simp;done)|(simp[Def.cells,h1,h3,h4,hB0,hn,hg,hmd,c,hX];done)) (by first | rfl | (simp;done)|(simp;rfl)|(simp[Def.cells,h1,h3,h4,hB0,hn,hg,hmd,c,hX];done)) ?_
    simp[hn]
    refine BrT.mk (fun c1=>?_) (fun c1=>?_)
    case refine_2=>(rw[c1] at hfd;simp[hn,c1,hfd])
    simp[h1,hB0,hn,c1]
    repeat refine⟨DrawT.mk (by kernel_rfl),?_⟩
    refine CallT.p0 (p_l2Own dn) (by first | rfl | (simp;done)|(simp[Def.cells,h1,h3,h4,hB0,hn,hg,hmd,c,hX,c1];done)) (by first | rfl | (simp;done)|(simp;rfl)|(simp[Def.cells,h1,h3,h4,hB0,hn,hg,hmd,c,hX,c1];done)) ?_
    simp[hn]
    refine BrT.mk (fun c2=>?_) (fun c2=>?_)
    case refine_1=>(rw[c1,c2] at hfd;simp[hn,c2,hfd])
    simp[h3,hn,c2]
    repeat refine⟨DrawT.mk (by kernel_rfl),?_⟩
    refine CallT.p0 (p_l1Once (fnames l) hnm) (by first | rfl | (simp;done)|(simp[Def.cells,h1,h3,h4,hB0,hn,hg,hmd,c,hX,c1,c2];done)) (by first | rfl | (simp;done)|(simp;rfl)|(simp[hX];done)) ?_
    simp[hn]
    refine BrT.mk (fun c3=>?_) (fun c3=>?_)
    case refine_2=>(rw[c1,c2,c3] at hfd;simp[hn,c3,hfd])
    simp[h1,hB0,hn,c3]
    repeat refine⟨DrawT.mk (by kernel_rfl),?_⟩
    refine CallT.p0 (p_l1Once words hwn) (by first | rfl | (simp;done)|(simp[Def.cells,h1,h3,h4,hB0,hn,hg,hmd,c,hX,c1,c2,c3];done)) (by first | rfl | (simp;done)|(simp;rfl)|(simp[Def.cells,h1,h3,h4,hB0,hn,hg,hmd,c,hX,c1,c2,c3];done)) ?_
    simp[hn]
    refine BrT.mk (fun c4=>?_) (fun c4=>?_)
    case refine_2=>(rw[c1,c2,c3,c4] at hfd;simp[hn,c4,hfd])
    rw[c1,c2,c3,c4] at hfd
    simp only[Bool.true_and,Bool.not_false] at hfd
    simp[h1,hB0,hn,c4]
    have i1:decide (1≤l.length)=decide ((1:Int)≤l.length):=by rw[decide_eq_decide];omega
    have i2:decide (l.length≤8)=decide ((l.length:Int)≤8):=by rw[decide_eq_decide];omega
    have i3:decide (words.length=0)=decide (words=[]):=by rw[decide_eq_decide];exact List.length_eq_zero_iff
    have i4:decide (1≤words.length)=decide ((1:Int)≤words.length):=by rw[decide_eq_decide];omega
    have i5:decide (words.length≤8)=decide ((words.length:Int)≤8):=by rw[decide_eq_decide];omega
    have i6:decide (l.length=0)=decide (l=[]):=by rw[decide_eq_decide];exact List.length_eq_zero_iff
    rw[i1,i2,i3,i4,i5,i6, ← hfd] at hrb
    refine BrT.dec (fun d1=>?_) (fun d1=>?_)
    · skip
      simp[h1,hB0,hn,d1]
      rw[if_pos (by omega)] at hrb
      have h5:=p_l1In (gl:=gl) l.length 1 8
      generalize (decide ((1:Int)≤l.length)&&decide ((l.length:Int)≤8))=g at h5 hrb
      repeat refine⟨DrawT.mk (by kernel_rfl),?_⟩
      refine CallT.p0 (h5) (by first | rfl | (simp;done)|(simp[hg];done)) (by first | rfl | (simp;done)|(simp;rfl)|(simp[Def.cells,h1,h3,h4,hB0,hn,hg,hmd,c,hX,c1,c2,c3,c4,d1];done)) ?_
      simp[hn]
      refine BrT.mk (fun c5=>?_) (fun c5=>?_)
      case refine_2=>(rw[c5] at hrb;simp[hn,c5,hrb])
      rw[c5] at hrb
      simp[h1,hB0,hn,d1,c5,hrb]
    simp[hn,d1]
    refine BrT.dec (fun d3=>?_) (fun d3=>?_)
    · skip
      simp[h1,hB0,hn,d3]
      rw[if_pos (by omega)] at hrb
      have h5:=p_l1In (gl:=gl) l.length 1 8
      generalize (decide ((1:Int)≤l.length)&&decide ((l.length:Int)≤8))=g at h5 hrb
      repeat refine⟨DrawT.mk (by kernel_rfl),?_⟩
      refine CallT.p0 (h5) (by first | rfl | (simp;done)|(simp[hg];done)) (by first | rfl | (simp;done)|(simp;rfl)|(simp[Def.cells,h1,h3,h4,hB0,hn,hg,hmd,c,hX,c1,c2,c3,c4,d1,d3];done)) ?_
      simp[hn]
      refine BrT.mk (fun c5=>?_) (fun c5=>?_)
      case refine_2=>(rw[c5] at hrb;simp[hn,c5,hrb])
      rw[c5] at hrb
      simp[h1,hB0,hn,d3,c5,hrb]
    simp[hn,d3]
    refine BrT.dec (fun d2=>?_) (fun d2=>?_)
    · skip
      simp[h1,hB0,hn,d2]
      rw[if_neg (by omega),if_pos (by omega)] at hrb
      have h5:=p_l1In (gl:=gl) words.length 1 8
      generalize (decide ((1:Int)≤words.length)&&decide ((words.length:Int)≤8))=g at h5 hrb
      refine BrT.dec (fun e5=>?_) (fun e5=>?_)
      case refine_2=>(rw[decide_eq_false e5] at hrb;simp[hn,e5,hrb])
      rw[decide_eq_true e5] at hrb
      simp[h1,hB0,hn,d2,e5]
      repeat refine⟨DrawT.mk (by kernel_rfl),?_⟩
      refine CallT.p0 (h5) (by first | rfl | (simp;done)|(simp[hg];done)) (by first | rfl | (simp;done)|(simp;rfl)|(simp[Def.cells,h1,h3,h4,hB0,hn,hg,hmd,c,hX,c1,c2,c3,c4,d1,d3,d2,e5];done)) ?_
      simp[hn]
      simp[hrb]
    simp[hn,d2]
    refine BrT.dec (fun d4=>?_) (fun d4=>?_)
    · skip
      simp[h1,hB0,hn,d4]
      rw[if_neg (by omega),if_pos (by omega)] at hrb
      have h5:=p_l1In (gl:=gl) words.length 1 8
      generalize (decide ((1:Int)≤words.length)&&decide ((words.length:Int)≤8))=g at h5 hrb
      refine BrT.dec (fun e5=>?_) (fun e5=>?_)
      case refine_2=>(rw[decide_eq_false e5] at hrb;simp[hn,e5,hrb])
      rw[decide_eq_true e5] at hrb
      simp[h1,hB0,hn,d4,e5]
      repeat refine⟨DrawT.mk (by kernel_rfl),?_⟩
      refine CallT.p0 (h5) (by first | rfl | (simp;done)|(simp[hg];done)) (by first | rfl | (simp;done)|(simp;rfl)|(simp[Def.cells,h1,h3,h4,hB0,hn,hg,hmd,c,hX,c1,c2,c3,c4,d1,d3,d2,d4,e5];done)) ?_
      simp[hn]
      simp[hrb]
    rw[if_neg (by omega),if_neg (by omega)] at hrb
    simp[hn,d4,hrb]
theorem p_l2Form (d:Def) (hd:DefSm d):PCall Tryz.prog gl 53 [d.d] (dB (defB d)):=by
  rw[← defForm_eq];exact p_l2FormD d hd
set_option maxHeartbeats 4000000 in
theorem p_l2Tree_of (L:List Def) (n:Int) (t:ByteArray) (l:List Val) (ns:List ByteArray) (d:Def) (p:Typ→Val→Bool) (hf:d.flds.length≤4611686018427387904) (hns0:ns.length≤l.length) (hl:l.length≤4611686018427387904)
    (h:∀ f∈d.flds,∀ w∈l,PCall Tryz.prog gl 81 [defsD L,f.ty.d,w.d] (dB (p f.ty w))):PCall Tryz.prog gl 140 [defsD L,d.d,(Val.mk 5 n t l ns).d] (dB ((ns.zip l).all (pairB d.flds p)&&d.flds.all (reqB ns))):=by
  have hzl:(ns.zip l).length=ns.length:=by simp;omega
  have hzat:∀ j (hj:j<ns.length),(ns.zip l)[j]'(by omega)=(ns[j],l[j]'(by omega)):=fun j hj=>by simp
  have hF:=fun s=>p_l2Field (gl:=gl) d s hf
  obtain⟨dn,kind,fs,words⟩:=d
  simp only at hf h hF
  generalize hr:((ns.zip l).all (pairB fs p)&&fs.all (reqB ns))=z
  refine PCall.by_ (md:=[]) Tryz.func140 rfl (by kernel_rfl) (n:=73) Tryz.ntmps140 (by simp) (by decide) rfl ?_
  simp[Val.cells,Def.cells]
  refine LoopT.round (fun E S=>∃ (i:Nat),(i≤ns.length)∧E 0=some (.d (defsD L))∧E 4=some (.op 0 0)∧E 5=some (.op 1 0)∧E 7=some (.d (dI i))∧S.B 0=some ([.d (dS dn), .d (dI kind), .d (fldsD fs), .d (namesD words)])∧S.B 1=some ([.d (dI 5), .d (dI n), .d (dS t), .d (valsD l), .d (namesD ns)])∧(allUp (pairB fs p) (ns.zip l) i)∧(2≤S.nx)) (upTo 7 ns.length) ⟨0,by simp;exact allUp_zero _ _⟩ ?_
  rintro E S hk ⟨i,hi,h0,h4,h5,h7,hB0,hB1,hp,hx⟩
  have hn:S.n=73:=by first | (simpa using hk.n)|(have hh:=hk.n;simp[Val.cells,Def.cells] at hh;exact hh)
  have hg:S.gl=gl:=by first | (simpa using hk.gl)|(have hh:=hk.gl;simp[Val.cells,Def.cells] at hh;exact hh)
  have hmd:S.md=[]:=by first | (simpa using hk.md)|(have hh:=hk.md;simp[Val.cells,Def.cells] at hh;exact hh)
  simp[h5,h7,hB1,hn,hg]
  have w:=wrap64 (n:=(i:Int)+1) (by omega) (by omega)
  refine BrT.dec (fun c=>?_) (fun c=>?_)
  · have hi2:i<ns.length:=by omega
    have hi3:i<l.length:=by omega
    have hi4:i<(ns.zip l).length:=by omega
    have hlen:=valsCells_len l
    have hfit:i*5+5≤l.length*5:=by omega
    have hat:=valsCells_at l hi3
    have bad:pairB fs p (ns[i],l[i])=false→z=false:=fun hb=>by rw[← hr,all_bad hi4 (by rw[hzat i hi2];exact hb)];rfl
    have good:pairB fs p (ns[i],l[i])=true→allUp (pairB fs p) (ns.zip l) (i+1):=fun hb=>all_take hi4 hp (by rw[hzat i hi2];exact hb)
    have hw:=fun f hf=>h f hf _ (List.getElem_mem hi3)
    generalize l[i]=v at hat bad good hw
    cases v with
    | mk vk vn vt vl vns =>
    simp only[Val.cells] at hat
    simp[h4,h5,h7,hB0,hB1,hn,c]
    refine⟨DrawT.mk (by kernel_rfl),?_⟩
    repeat refine⟨DrawT.mk (by kernel_rfl),?_⟩
    refine CallT.p0 (hF ns[i]) (by first | rfl | (simp;done)|(simp[hg];done)) (by first | rfl | (simp;done)|(simp;rfl)|(simp[Val.cells,Def.cells,h0,h4,h5,h7,hB0,hB1,hn,hg,hmd,c,hi2,hi3,hlen,hfit,hat,w];done)) ?_
    simp[hn]
    refine⟨DrawT.mk (by kernel_rfl),?_⟩
    have hpb:pairB fs p (ns[i], .mk vk vn vt vl vns)=match fldAt fs ns[i] with | some f=>p f.ty (.mk vk vn vt vl vns) | none=>false:=rfl
    rcases fldI_at fs ns[i] with ⟨e1,e2⟩ | ⟨j,hj,e1,e2⟩
    · rw[e2] at hpb
      have hq:=bad hpb
      simp[hn,e1,hq]
    · rw[e2] at hpb
      simp only at hpb
      have hw:=hw _ (List.getElem_mem hj)
      have flen:=flds_len fs
      have ffit:j*5+5≤fs.length*5:=by omega
      have fat:=flds_at fs hj
      generalize fs[j]=f at hpb hw fat
      obtain⟨fn,args,fty⟩:=f
      cases fty with
      | mk ft flt fb =>
      simp only[Fld.cells,Typ.cells] at fat
      simp only at hpb hw
      have fat_2_3:=row_sub fat 2 3 (by decide)
      have fat_2_3':j*5+2+3≤_:=Nat.le_trans (by omega) ffit
      have hneg:¬ ((j:Int)<0):=by omega
      simp[h0,h4,h5,h7,hB0,hB1,hn,hi3,hlen,hfit,hat,fat_2_3,fat_2_3',e1,hneg,hj,flen]
      repeat refine⟨DrawT.mk (by kernel_rfl),?_⟩
      refine CallT.p0 (hw) (by first | rfl | (simp;done)|(simp[hg];done)) (by first | rfl | (simp;done)|(simp;rfl)|(simp[Val.cells,Def.cells,h0,h4,h5,h7,hB0,hB1,hn,hg,hmd,c,hi2,hi3,hlen,hfit,hat,w,fat_2_3,fat_2_3',e1,hneg,hj,flen];done)) ?_
      simp[hn]
      refine BrT.mk (fun c1=>?_) (fun c1=>?_)
      case refine_2=>(have hq:=bad (by rw[hpb,c1]);simp[hn,c1,hq])
      simp[h0,h4,h5,h7,hB0,hB1,hn,w,c1]
      exact⟨⟨i+1,hi2,by omega,good (by rw[hpb,c1])⟩,upTo_lt h7 (by simp) hi2⟩
  · have hi3:i=ns.length:=by omega
    subst hi3
    have hp1:(ns.zip l).all (pairB fs p)=true:=allUp_all (by rw[hzl];exact hp)
    rw[hp1,Bool.true_and] at hr
    simp[hn,c]
    refine LoopT.round (fun E S=>∃ (k:Nat),(k≤fs.length)∧E 0=some (.d (defsD L))∧E 4=some (.op 0 0)∧E 5=some (.op 1 0)∧E 9=some (.d (dI k))∧S.B 0=some ([.d (dS dn), .d (dI kind), .d (fldsD fs), .d (namesD words)])∧S.B 1=some ([.d (dI 5), .d (dI n), .d (dS t), .d (valsD l), .d (namesD ns)])∧(allUp (reqB ns) fs k)∧(2≤S.nx)) (upTo 9 fs.length) ⟨0,by simp[h0,h4,h5,hB0,hB1];exact allUp_zero _ _⟩ ?_
    rintro E S hk ⟨k,hk2,h0,h4,h5,h9,hB0,hB1,hp2,hx⟩
    have hn:S.n=73:=by first | (simpa using hk.n)|(have hh:=hk.n;simp[hn] at hh;exact hh)
    have hg:S.gl=gl:=by first | (simpa using hk.gl)|(have hh:=hk.gl;simp[hg] at hh;exact hh)
    have hmd:S.md=[]:=by first | (simpa using hk.md)|(have hh:=hk.md;simp[hmd] at hh;exact hh)
    simp[h4,h9,hB0,hn,hg]
    have w2:=wrap64 (n:=(k:Int)+1) (by omega) (by omega)
    refine BrT.dec (fun c2=>?_) (fun c2=>?_)
    · have hk3:k<fs.length:=by omega
      have flen:=flds_len fs
      have ffit:k*5+5≤fs.length*5:=by omega
      have fat:=flds_at fs hk3
      have bad:reqB ns fs[k]=false→z=false:=fun hb=>by rw[← hr,all_bad hk3 hb]
      have good:=all_take (p:=reqB ns) hk3 hp2
      generalize fs[k]=f at fat bad good
      obtain⟨fn,args,fty⟩:=f
      cases fty with
      | mk ft flt fb =>
      simp only[Fld.cells,Typ.cells] at fat
      have hrq:reqB ns ⟨fn,args, .mk ft flt fb⟩ = !(fb && !memB fn ns):=rfl
      rw[hrq] at bad good
      have fat_0:=row_get0 fat (by decide) rfl
      have fat_0'':=(List.getElem?_eq_some_iff.1 fat_0).2
      have fat_0':k*5<_:=Nat.lt_of_lt_of_le (by omega) ffit
      have fat_4:=row_get fat 4 (by decide) rfl
      have fat_4'':=(List.getElem?_eq_some_iff.1 fat_4).2
      have fat_4':k*5+4<_:=Nat.lt_of_lt_of_le (by omega) ffit
      have hT:=p_l1TreeT (gl:=gl) 5 n t l ns fn (fun _=>hns0) hl (by omega)
      have hTs:(treeK 5 ns l fn).isSome=memB fn ns:=treeV_some ns l fn hns0
      rw[hTs] at hT
      generalize (treeK 5 ns l fn).getD zV0=tv at hT
      cases tv with
      | mk tk tn tt tl tns =>
      simp[h4,h5,h9,hB0,hB1,hn,c2,fat_0',fat_0'',flen]
      refine⟨DrawT.mk (by kernel_rfl),?_⟩
      repeat refine⟨DrawT.mk (by kernel_rfl),?_⟩
      refine CallT.p0 (hT) (by first | rfl | (simp;done)|(simp[hg];done)) (by first | rfl | (simp;done)|(simp;rfl)|(simp[Val.cells,Def.cells,h0,h4,h5,h7,hB0,hB1,hn,hg,hmd,c,h0,h4,h5,h9,hB0,hB1,hn,hg,hmd,c2,fat_0,fat_0',fat_0'',fat_4,fat_4',fat_4'',hk3,flen,w2];done)) ?_
      simp[Val.cells,h4,h9,hB0,hn,c2,fat_4',fat_4'',flen]
      refine BrT.mk (fun c4=>?_) (fun c4=>?_)
      · simp[hn,c4]
        refine BrT.mk (fun c5=>?_) (fun c5=>?_)
        case refine_2=>(have hq:=bad (by rw[c4,c5];rfl);simp[hn,c5,hq])
        simp[h0,h4,h5,h9,hB0,hB1,hn,w2,c5]
        exact⟨⟨k+1,hk3,by omega,good (by rw[c4,c5];rfl)⟩,upTo_lt h9 (by simp) hk3⟩
      · simp[h0,h4,h5,h9,hB0,hB1,hn,w2,c4]
        exact⟨⟨k+1,hk3,by omega,good (by rw[c4];rfl)⟩,upTo_lt h9 (by simp) hk3⟩
    · have hk4:k=fs.length:=by omega
      subst hk4
      rw[allUp_all hp2] at hr
      simp[hn,c2, ← hr]
set_option maxHeartbeats 4000000 in
theorem p_l2Fits (L:List Def) (hL:L.length≤1000000) (hd:∀ d∈L,defB d=true∧DefOk d) (v:Val) (t:Typ) (e:Nat) (ht:typB t e=true) (hv:WF v) (hw:TW v):PCall Tryz.prog gl 81 [defsD L,t.d,v.d] (dB (fitsB L t v)):=by
  match t,v,e,ht,hv,hw with
  | t,v,0,ht,_,_=>simp[typB] at ht
  | .mk t lt b, .mk k n x vs ns,e+1,ht, .mk hx hn hl hwf, .mk hz htw =>
  have hfe:=fitsB_eq L t lt b k n x vs ns
  have ih:∀ y,lt=[y]→typB y e=true→PCall Tryz.prog gl 81 [defsD L,y.d,(Val.mk k n x vs ns).d] (dB (fitsB L y (.mk k n x vs ns)))∧∀ w∈vs,PCall Tryz.prog gl 81 [defsD L,y.d,w.d] (dB (fitsB L y w)):=fun y hlt hy =>
    ⟨p_l2Fits L hL hd (.mk k n x vs ns) y e hy (.mk hx hn hl hwf) (.mk hz htw),fun w hm=>p_l2Fits L hL hd w y e hy (hwf w hm) (htw w hm)⟩
  have ih2:∀ f:Fld,typB f.ty 3=true→∀ w∈vs,PCall Tryz.prog gl 81 [defsD L,f.ty.d,w.d] (dB (fitsB L f.ty w)):=fun f hf w hm=>p_l2Fits L hL hd w f.ty 3 hf (hwf w hm) (htw w hm)
  generalize fitsB L (.mk t lt b) (.mk k n x vs ns)=z at hfe
  unfold typB at ht
  by_cases k0:k=0
  · rw[if_pos k0] at hfe
    refine PCall.by_ (md:=[]) Tryz.func81 rfl (by kernel_rfl) (n:=125) Tryz.ntmps81 (by simp) (by decide) rfl ?_
    simp[Val.cells,Typ.cells,k0,hfe]
  rw[if_neg k0] at hfe
  by_cases h0:t=noS
  · rw[if_pos h0] at ht
    match lt,ht,ih with
    | [],ht,_=>simp at ht
    | _::_::_,ht,_=>simp at ht
    | [y],ht,ih =>
      simp only at ht
      obtain⟨ih1,ihs⟩:=ih y rfl ht
      have hs:fitsS L t [y] k n x vs ns=if k=4 then vs.all (fitsB L y) else fitsB L y (.mk k n x vs ns):=if_pos h0
      rw[hs] at hfe
      by_cases k4:k=4
      · rw[if_pos k4] at hfe
        cases y with
        | mk ty ly by_ =>
        refine PCall.by_ (md:=[]) Tryz.func81 rfl (by kernel_rfl) (n:=125) Tryz.ntmps81 (by simp) (by decide) rfl ?_
        simp[Val.cells,Typ.cells,typsCells,k4]
        refine LoopT.round (fun E S=>∃ (i:Nat),(i≤vs.length)∧E 0=some (.d (defsD L))∧E 4=some (.op 0 0)∧E 5=some (.op 1 0)∧E 7=some (.d (dI i))∧S.B 0=some ([.d (dS t), .d (.ps [dS ty,typsD ly,dB by_] 1), .d (dB b)])∧S.B 1=some ([.d (dI 4), .d (dI n), .d (dS x), .d (valsD vs), .d (namesD ns)])∧(allUp (fitsB L (.mk ty ly by_)) vs i)∧(2≤S.nx)) (upTo 7 vs.length) ⟨0,by simp;exact allUp_zero _ _⟩ ?_
        rintro E S hk ⟨i,hi,h0,h4,h5,h7,hB0,hB1,hp,hx2⟩
        have hn:S.n=125:=by first | (simpa using hk.n)|(have hh:=hk.n;simp[Val.cells,Typ.cells,typsCells,k0,k4] at hh;exact hh)
        have hg:S.gl=gl:=by first | (simpa using hk.gl)|(have hh:=hk.gl;simp[Val.cells,Typ.cells,typsCells,k0,k4] at hh;exact hh)
        have hmd:S.md=[]:=by first | (simpa using hk.md)|(have hh:=hk.md;simp[Val.cells,Typ.cells,typsCells,k0,k4] at hh;exact hh)
        simp[h5,h7,hB1,hn,hg]
        have w:=wrap64 (n:=(i:Int)+1) (by omega) (by omega)
        refine BrT.dec (fun c=>?_) (fun c=>?_)
        · have hi3:i<vs.length:=by omega
          have hlen:=valsCells_len vs
          have hfit:i*5+5≤vs.length*5:=by omega
          have hat:=valsCells_at vs hi3
          have bad:fitsB L (.mk ty ly by_) vs[i]=false→z=false:=fun hb=>by rw[hfe,all_bad hi3 hb]
          have good:=all_take (p:=fitsB L (.mk ty ly by_)) hi3 hp
          have hw:=ihs _ (List.getElem_mem hi3)
          generalize vs[i]=v at hat bad good hw
          cases v with
          | mk vk vn vt vl vns =>
          simp only[Val.cells] at hat
          simp[h0,h4,h5,h7,hB0,hB1,hn,c,hlen,hfit,hat]
          refine⟨DrawT.mk (by kernel_rfl),?_⟩
          repeat refine⟨DrawT.mk (by kernel_rfl),?_⟩
          refine CallT.p0 (hw) (by first | rfl | (simp;done)|(simp[hg];done)) (by first | rfl | (simp;done)|(simp;rfl)|(simp[Val.cells,Typ.cells,typsCells,k0,k4,h0,h4,h5,h7,hB0,hB1,hn,hg,hmd,c,hi3,hlen,hfit,hat,w];done)) ?_
          simp[hn]
          refine BrT.mk (fun c1=>?_) (fun c1=>?_)
          case refine_2=>(have hq:=bad c1;simp[hn,c1,hq])
          simp[h0,h4,h5,h7,hB0,hB1,hn,w,c1]
          exact⟨⟨i+1,hi3,by omega,good c1⟩,upTo_lt h7 (by simp) hi3⟩
        · have hi3:i=vs.length:=by omega
          subst hi3
          rw[allUp_all hp] at hfe
          simp[hn,c,hfe]
      · rw[if_neg k4] at hfe
        cases y with
        | mk ty ly by_ =>
        refine PCall.by_ (md:=[]) Tryz.func81 rfl (by kernel_rfl) (n:=125) Tryz.ntmps81 (by simp) (by decide) rfl ?_
        simp[Val.cells,Typ.cells,typsCells,k0,k4]
        refine⟨DrawT.mk (by kernel_rfl),?_⟩
        repeat refine⟨DrawT.mk (by kernel_rfl),?_⟩
        refine CallT.p0 (ih1) (by first | rfl | (simp;done)|(simp[Val.cells,Typ.cells,typsCells,k0,k4];done)) (by first | rfl | (simp;done)|(simp;rfl)|(simp[Val.cells,Typ.cells,typsCells,k0,k4];done)) ?_
        simp
        simp[hfe]
  · rw[if_neg h0,Bool.and_eq_true] at ht
    have hlt:lt=[]:=List.eq_nil_of_length_eq_zero (by simpa using ht.2)
    subst hlt
    unfold fitsS at hfe
    rw[if_neg h0] at hfe
    refine PCall.by_ (md:=[]) Tryz.func81 rfl (by kernel_rfl) (n:=125) Tryz.ntmps81 (by simp) (by decide) rfl ?_
    simp[Val.cells,Typ.cells,typsCells,k0]
    refine BrT.dec (fun t1=>?_) (fun t1=>?_)
    case refine_1=>(rw[if_pos t1] at hfe;simp[t1,hfe])
    rw[if_neg t1] at hfe
    simp[t1]
    refine BrT.dec (fun t2=>?_) (fun t2=>?_)
    case refine_1=>(rw[if_pos t2] at hfe;simp[t2,hfe])
    rw[if_neg t2] at hfe
    simp[t2]
    refine BrT.dec (fun t3=>?_) (fun t3=>?_)
    case refine_1=>(rw[if_pos t3] at hfe;simp[t3,hfe])
    rw[if_neg t3] at hfe
    simp[t3]
    refine BrT.dec (fun t4=>?_) (fun t4=>?_)
    · rw[if_pos t4] at hfe
      simp[t4]
      refine BrT.dec (fun k3=>?_) (fun k3=>?_)
      case refine_1=>simp[hfe,k3]
      simp[hfe,k3]
    rw[if_neg t4] at hfe
    simp[t4]
    repeat refine⟨DrawT.mk (by kernel_rfl),?_⟩
    refine CallT.p0 (p_l2At L t (by omega)) (by first | rfl | (simp;done)|(simp[Val.cells,Typ.cells,typsCells,k0,h0,t1,t2,t3,t4];done)) (by first | rfl | (simp;done)|(simp;rfl)|(simp[Val.cells,Typ.cells,typsCells,k0,h0,t1,t2,t3,t4];done)) ?_
    simp
    cases ha:atD L t with
    | none =>
      have hz1:atZ L t = -1:=by unfold atZ;rw[ha]
      have hk:kindL L t=0:=by rw[kindL,defL_none ha];rfl
      rw[hk,if_neg (by omega),if_neg (by omega)] at hfe
      simp[hz1,hfe]
    | some j =>
      have hz1:atZ L t=j:=by unfold atZ;rw[ha]
      have hj:=atD_lt ha
      have hdl:=defL_some ha
      have hlen:=defs_len L
      have hfit:j*4+4≤L.length*4:=by omega
      have hat:=defs_at L hj
      have hkk:kindL L t=(defL L t).kind:=rfl
      obtain⟨hdb,hdo⟩:=hd _ (List.getElem_mem hj)
      rw[hdl] at hkk hfe
      generalize L[j]=d at hat hkk hfe hdb hdo
      have hTr:=fun hk5=>p_l2Tree_of (gl:=gl) L n x vs ns d (fitsB L) hdo.2.1.1 (hz hk5) hl fun f hf w hm=>ih2 f (fld_of hdb f hf).1 w hm
      obtain⟨dn,kind,fs,words⟩:=d
      simp only at hkk hfe
      simp only[Def.cells] at hat
      have hat_1:=row_get hat 1 (by decide) rfl
      have hat_1'':=(List.getElem?_eq_some_iff.1 hat_1).2
      have hat_1':j*4+1<_:=Nat.lt_of_lt_of_le (by omega) hfit
      have hat_3:=row_get hat 3 (by decide) rfl
      have hat_3'':=(List.getElem?_eq_some_iff.1 hat_3).2
      have hat_3':j*4+3<_:=Nat.lt_of_lt_of_le (by omega) hfit
      have hat_0_4:=row_sub0 hat 4 (by decide)
      have hat_0_4':j*4+4≤_:=Nat.le_trans (by omega) hfit
      have hneg:¬ ((j:Int)<0):=by omega
      rw[hkk] at hfe
      simp[hat_1',hat_1'',hz1,hneg,hj,hlen]
      refine BrT.dec (fun kk2=>?_) (fun kk2=>?_)
      · rw[if_pos kk2] at hfe
        have hwl:=hdo.2.2.1
        simp only at hwl
        simp[kk2]
        refine⟨DrawT.mk (by kernel_rfl),?_⟩
        refine BrT.dec (fun k7=>?_) (fun k7=>?_)
        · rw[decide_eq_true k7,Bool.true_or,Bool.true_and] at hfe
          simp[hat_3',hat_3'',hj,hlen,k7]
          repeat refine⟨DrawT.mk (by kernel_rfl),?_⟩
          refine CallT.p0 (p_l2Has words x (by omega)) (by first | rfl | (simp;done)|(simp[Val.cells,Typ.cells,typsCells,k0,h0,t1,t2,t3,t4,hat_1,hat_1',hat_1'',hat_3,hat_3',hat_3'',hat_0_4,hat_0_4',hz1,hneg,hj,hlen,kk2,k7];done)) (by first | rfl | (simp;done)|(simp;rfl)|(simp[Val.cells,Typ.cells,typsCells,k0,h0,t1,t2,t3,t4,hat_1,hat_1',hat_1'',hat_3,hat_3',hat_3'',hat_0_4,hat_0_4',hz1,hneg,hj,hlen,kk2,k7];done)) ?_
          simp
          rw[hfe]
        simp[k7]
        refine BrT.dec (fun k3=>?_) (fun k3=>?_)
        case refine_2=>(rw[decide_eq_false k7,decide_eq_false k3] at hfe;simp[k3,hfe])
        rw[decide_eq_true k3,Bool.or_true,Bool.true_and] at hfe
        simp[hat_3',hat_3'',hj,hlen,k3]
        repeat refine⟨DrawT.mk (by kernel_rfl),?_⟩
        refine CallT.p0 (p_l2Has words x (by omega)) (by first | rfl | (simp;done)|(simp[Val.cells,Typ.cells,typsCells,k0,h0,t1,t2,t3,t4,hat_1,hat_1',hat_1'',hat_3,hat_3',hat_3'',hat_0_4,hat_0_4',hz1,hneg,hj,hlen,kk2,k7,k3];done)) (by first | rfl | (simp;done)|(simp;rfl)|(simp[Val.cells,Typ.cells,typsCells,k0,h0,t1,t2,t3,t4,hat_1,hat_1',hat_1'',hat_3,hat_3',hat_3'',hat_0_4,hat_0_4',hz1,hneg,hj,hlen,kk2,k7,k3];done)) ?_
        simp
        rw[hfe]
      · rw[if_neg kk2] at hfe
        simp[hat_1',hat_1'',hj,hlen,kk2]
        refine⟨DrawT.mk (by kernel_rfl),?_⟩
        refine BrT.dec (fun kk3=>?_) (fun kk3=>?_)
        case refine_2=>(rw[if_neg kk3] at hfe;simp[kk3,hfe])
        rw[if_pos kk3] at hfe
        simp[kk3]
        refine BrT.dec (fun k5=>?_) (fun k5=>?_)
        case refine_2=>(rw[decide_eq_false k5] at hfe;simp[k5,hfe])
        rw[decide_eq_true k5] at hfe
        have hTr5:PCall Tryz.prog gl 140 [defsD L,(⟨dn,kind,fs,words⟩:Def).d,(Val.mk k n x vs ns).d] (dB ((ns.zip vs).all (pairB fs (fitsB L))&&fs.all (reqB ns))):=by rw[k5];exact hTr k5
        simp[hat_0_4,hat_0_4',hj,hlen,kk3,k5]
        repeat refine⟨DrawT.mk (by kernel_rfl),?_⟩
        refine CallT.p0 (hTr5) (by first | rfl | (simp;done)|(simp[Val.cells,Typ.cells,typsCells,k0,h0,t1,t2,t3,t4,hat_1,hat_1',hat_1'',hat_3,hat_3',hat_3'',hat_0_4,hat_0_4',hz1,hneg,hj,hlen,kk2,kk3,k5,Def.cells];done)) (by first | rfl | (simp;done)|(simp;rfl)|(simp[Val.cells,kk3,k5,Def.cells];done)) ?_
        simp
        simp[hfe]
  termination_by (SizeOf.sizeOf v,SizeOf.sizeOf t)
  decreasing_by
    · apply Prod.Lex.right
      subst hlt
      simp;omega
    · have:=List.sizeOf_lt_of_mem hm
      apply Prod.Lex.left
      simp;omega
    · have:=List.sizeOf_lt_of_mem hm
      apply Prod.Lex.left
      simp;omega
end Go.Proofs.YtlmpjblmmpddeaaGreat
namespace Go.Proofs.YtlmpjblmmpddeaaGreat
open Go.Sh
inductive Far (nx:ByteArray→List ByteArray):ByteArray→ByteArray→Prop
  | one {x y:ByteArray} (h:y∈nx x):Far nx x y
  | more {x y z:ByteArray} (h:y∈nx x) (k:Far nx y z):Far nx x z
theorem Far.trans {nx:ByteArray→List ByteArray}{x y z:ByteArray} (h:Far nx x y) (k:Far nx y z):Far nx x z:=by
  induction h with
  | one h=>exact .more h k
  | more h _ ih=>exact .more h (ih k)
theorem nodup_len:∀ {l m:List ByteArray},l.Nodup→(∀ x∈l,x∈m)→l.length≤m.length
  | [],m,_,_=>Nat.zero_le _
  | x::r,m,hd,hs=>by
    have hx:=hs x List.mem_cons_self
    rw[List.nodup_cons] at hd
    obtain⟨a,b,rfl⟩:=List.append_of_mem hx
    have ih:=nodup_len (l:=r) (m:=a++b) hd.2 fun y hy=>by
      have:=hs y (List.mem_cons_of_mem _ hy)
      have hne:y≠x:=by rintro rfl;exact hd.1 hy
      simpa[hne] using this
    simp at ih ⊢
    omega
def stepsB (nx:ByteArray→List ByteArray) (ok:ByteArray→Bool):Nat→ByteArray→Bool
  | 0,x=>ok x
  | m+1,x=>ok x&&(nx x).any (stepsB nx ok m)
section
variable {nx:ByteArray→List ByteArray}{ok:ByteArray→Bool}{U:List ByteArray}
theorem steps_ok {m:Nat}{x:ByteArray} (h:stepsB nx ok m x=true):ok x=true:=by
  cases m with
  | zero=>exact h
  | succ m=>rw[stepsB,Bool.and_eq_true] at h;exact h.1
theorem steps_round (hU:∀ y,ok y=true→y∈U):∀ (m:Nat) (x:ByteArray) (V:List ByteArray),stepsB nx ok m x=true→V.Nodup→(∀ v∈V,Far nx v x∧v∈U)→U.length<m+V.length→∃ y∈U,Far nx y y
  | m,x,V,h,hd,hV,hl=>by
    by_cases hx:x∈V
    · exact⟨x,(hV x hx).2,(hV x hx).1⟩
    have hxU:=hU x (steps_ok h)
    have hd2:(x::V).Nodup:=List.nodup_cons.2 ⟨hx,hd⟩
    have hle:=nodup_len hd2 fun y hy=>by
      rcases List.mem_cons.1 hy with rfl | hy
      · exact hxU
      · exact (hV y hy).2
    rw[List.length_cons] at hle
    match m,h,hl with
    | 0,h,hl=>omega
    | m+1,h,hl =>
      rw[stepsB,Bool.and_eq_true,List.any_eq_true] at h
      obtain⟨_,y,hy,hs⟩:=h
      refine steps_round hU m y (x::V) hs hd2 (fun v hv=>?_) (by rw[List.length_cons];omega)
      rcases List.mem_cons.1 hv with rfl | hv
      · exact⟨.one hy,hxU⟩
      · exact⟨(hV v hv).1.trans (.one hy),(hV v hv).2⟩
theorem round_steps (hk:∀ x y,y∈nx x→ok x=true) {y:ByteArray} (hy:Far nx y y):∀ (m:Nat) (x:ByteArray),Far nx x y→stepsB nx ok m x=true
  | 0,x,h=>by
    cases h with
    | one h=>exact hk _ _ h
    | more h _=>exact hk _ _ h
  | m+1,x,h=>by
    rw[stepsB,Bool.and_eq_true,List.any_eq_true]
    cases h with
    | one h=>exact⟨hk _ _ h,y,h,round_steps hk hy m y hy⟩
    | more h k=>exact⟨hk _ _ h,_,h,round_steps hk hy m _ k⟩
def needsG (nx:ByteArray→List ByteArray):Nat→ByteArray→List ByteArray→List ByteArray
  | 0,_,k=>k
  | n+1,x,k=>(nx x).foldl (fun k y=>if memB y k=true then k else needsG nx n y (k++[y])) k
structure KnownIn (U k:List ByteArray):Prop where
  nodup:k.Nodup
  sub:∀ y∈k,y∈U
structure Grew (nx:ByteArray→List ByteArray) (U:List ByteArray) (x:ByteArray) (k r:List ByteArray):Prop where
  inv:KnownIn U r
  sub:∀ y∈k,y∈r
  len:k.length≤r.length
  shut:∀ y∈r,¬ y∈k→∀ z∈nx y,z∈r
  far:∀ y∈r,¬ y∈k→Far nx x y
theorem KnownIn.snoc {k:List ByteArray}{y:ByteArray} (h:KnownIn U k) (hy:y∈U) (hn:¬ y∈k):KnownIn U (k++[y]):=by
  refine⟨?_,fun z hz=>?_⟩
  · rw[List.nodup_append]
    refine⟨h.nodup,by simp,fun a ha b hb e=>?_⟩
    simp at hb
    exact hn (by rw[← hb, ← e];exact ha)
  · rcases List.mem_append.1 hz with hz | hz
    · exact h.sub z hz
    · simp at hz;exact hz▸hy
theorem grew_fold (n:Nat) (x:ByteArray) (k:List ByteArray) (ih:∀ y k',KnownIn U k'→U.length<n+k'.length→Grew nx U y k' (needsG nx n y k')∧∀ z∈nx y,z∈needsG nx n y k')
    (hl:U.length<n+1+k.length):∀ (s:List ByteArray) (k':List ByteArray),(∀ y∈s,y∈nx x∧y∈U)→Grew nx U x k k' →
      Grew nx U x k (s.foldl (fun k y=>if memB y k=true then k else needsG nx n y (k++[y])) k')∧(∀ y∈s,y∈s.foldl (fun k y=>if memB y k=true then k else needsG nx n y (k++[y])) k')∧∀ y∈k',y∈s.foldl (fun k y=>if memB y k=true then k else needsG nx n y (k++[y])) k'
  | [],k',_,h=>⟨h,fun y hy=>by simp at hy,fun y hy=>hy⟩
  | y::s,k',hs,h=>by
    have hy:=hs y List.mem_cons_self
    rw[List.foldl_cons]
    by_cases hm:memB y k'=true
    · rw[if_pos hm]
      obtain⟨h1,h2,h3⟩:=grew_fold n x k ih hl s k' (fun z hz=>hs z (List.mem_cons_of_mem _ hz)) h
      refine⟨h1,fun z hz=>?_,h3⟩
      rcases List.mem_cons.1 hz with rfl | hz
      · exact h3 _ (memB_iff.1 hm)
      · exact h2 z hz
    · rw[if_neg hm]
      have hm:¬ y∈k':=fun e=>hm (memB_iff.2 e)
      have hK:=h.inv.snoc hy.2 hm
      have hle:=h.len
      obtain⟨g,gs⟩:=ih y (k'++[y]) hK (by simp;omega)
      have hg:Grew nx U x k (needsG nx n y (k'++[y])):=by
        refine⟨g.inv,fun z hz=>g.sub z (List.mem_append_left _ (h.sub z hz)),?_,fun z hz hn w hw=>?_,fun z hz hn=>?_⟩
        · have:=g.len;simp at this;omega
        · by_cases hzk:z∈k'
          · exact g.sub w (List.mem_append_left _ (h.shut z hzk hn w hw))
          · by_cases hzy:z=y
            · subst hzy;exact gs w hw
            · exact g.shut z hz (by simp[hzk,hzy]) w hw
        · by_cases hzk:z∈k'
          · exact h.far z hzk hn
          · by_cases hzy:z=y
            · subst hzy;exact .one hy.1
            · exact .more hy.1 (g.far z hz (by simp[hzk,hzy]))
      obtain⟨h1,h2,h3⟩:=grew_fold n x k ih hl s _ (fun z hz=>hs z (List.mem_cons_of_mem _ hz)) hg
      refine⟨h1,fun z hz=>?_,fun z hz=>h3 z (g.sub z (List.mem_append_left _ hz))⟩
      rcases List.mem_cons.1 hz with rfl | hz
      · exact h3 _ (g.sub _ (by simp))
      · exact h2 z hz
theorem KnownIn.self {k:List ByteArray}{x:ByteArray} (h:KnownIn U k):Grew nx U x k k:=⟨h,fun _ h=>h,Nat.le_refl _,fun y h n=>absurd h n,fun y h n=>absurd h n⟩
theorem needs_grew (hnx:∀ x y,y∈nx x→y∈U):∀ (n:Nat) (x:ByteArray) (k:List ByteArray),KnownIn U k→U.length<n+k.length→Grew nx U x k (needsG nx n x k)∧∀ z∈nx x,z∈needsG nx n x k
  | 0,x,k,h,hl=>by have:=nodup_len h.nodup h.sub;omega
  | n+1,x,k,h,hl=>by
    have:=grew_fold (nx:=nx) (U:=U) n x k (needs_grew hnx n) hl (nx x) k (fun y hy=>⟨hy,hnx x y hy⟩) h.self
    exact⟨this.1,this.2.1⟩
theorem grew_part (hnx:∀ x y,y∈nx x→y∈U) {n:Nat}{x:ByteArray}{k:List ByteArray} (h:KnownIn U k) (hl:U.length<n+1+k.length) {s:List ByteArray} (hs:∀ y∈s,y∈nx x):Grew nx U x k (s.foldl (fun k y=>if memB y k=true then k else needsG nx n y (k++[y])) k) :=
  (grew_fold (nx:=nx) (U:=U) n x k (needs_grew hnx n) hl s k (fun y hy=>⟨hs y hy,hnx x y (hs y hy)⟩) h.self).1
theorem needs_self (hnx:∀ x y,y∈nx x→y∈U) (x:ByteArray):memB x (needsG nx (U.length+1) x [])=true↔Far nx x x:=by
  obtain⟨g,gs⟩:=needs_grew hnx (U.length+1) x [] ⟨by simp,by simp⟩ (by simp)
  rw[memB_iff]
  refine⟨fun h=>g.far x h (by simp),fun h=>?_⟩
  have all:∀ a b,Far nx a b→(∀ z∈nx a,z∈needsG nx (U.length+1) x [])→b∈needsG nx (U.length+1) x []:=fun a b h=>by
    induction h with
    | one h=>exact fun k=>k _ h
    | more h _ ih=>exact fun k=>ih (g.shut _ (k _ h) (by simp))
  exact all x x h gs
end
end Go.Proofs.YtlmpjblmmpddeaaGreat
namespace Go.Proofs.YtlmpjblmmpddeaaGreat
open Go.Sh
theorem any_take {α:Type}{p:α→Bool}{l:List α}{i:Nat} (hi:i<l.length):(l.take (i+1)).any p=((l.take i).any p || p l[i]):=by
  rw[List.take_succ_eq_append_getElem hi,List.any_append];simp
def noUp {α:Type} (p:α→Bool) (l:List α) (i:Nat):Prop:=(l.take i).any p=false
theorem noUp_zero {α:Type} (p:α→Bool) (l:List α):noUp p l 0:=rfl
theorem noUp_next {α:Type}{p:α→Bool}{l:List α}{i:Nat} (hi:i<l.length) (h:noUp p l i) (hp:p l[i]=false):noUp p l (i+1):=by
  unfold noUp at h ⊢
  rw[any_take hi,h,hp];rfl
theorem noUp_all {α:Type}{p:α→Bool}{l:List α} (h:noUp p l l.length):l.any p=false:=by
  unfold noUp at h
  rwa [List.take_length] at h
theorem any_at {α:Type}{p:α→Bool}{l:List α}{i:Nat} (hi:i<l.length) (h:p l[i]=true):l.any p=true:=List.any_eq_true.2 ⟨_,List.getElem_mem hi,h⟩
def AsD (s t:SV):Prop:=s=t∨∃ d,s.toD=some d∧t=.d d
def AsDs:List SV→List SV→Prop
  | [],[]=>True
  | s::ss,t::ts=>AsD s t∧AsDs ss ts
  | _,_=>False
theorem AsDs.at:∀ {ss ts:List SV},AsDs ss ts→ss.length=ts.length∧∀ j (h:j<ss.length) (h':j<ts.length),AsD ss[j] ts[j]
  | [],[],_=>⟨rfl,fun j h=>by cases h⟩
  | s::ss,t::ts,h=>by
    obtain⟨h1,h2⟩:=AsDs.at h.2
    refine⟨by simp[h1],fun j hj hj'=>?_⟩
    cases j with
    | zero=>exact h.1
    | succ j=>exact h2 j (by simpa using hj) (by simpa using hj')
theorem LCall.as {P:Program}{f:FuncId}{ss ts:List SV}{S S':St}{r:SV} (h:LCall P f ts S r S') (ha:AsDs ss ts):LCall P f ss S r S':=by
  obtain⟨a1,a2⟩:=ha.at
  refine⟨h.1,h.2.1,fun m0 w0 G E F a w vals hr hF hl hv=>h.2.2 m0 w0 G E F a w vals hr hF (by omega) fun j hj hj'=>?_⟩
  have:=hv j (by omega) hj'
  rcases a2 j (by omega) hj with e | ⟨d,e1,e2⟩
  · rw[← e];exact this
  · rw[e2];exact .d (this.toD e1)
theorem CallT.la {P:Program}{S:St}{lo:Lo}{g:FuncId}{ss ts:List SV}{K:Bool→SV→St→Prop}{r:SV}{S':St} (h:LCall P g ts S r S') (ha:AsDs ss ts) (hl:lo.loud=true) (k:K true r S'):CallT lo P g ss S K:=CallT.l (LCall.as h ha) hl k
def AccN (S0 S:St) (X:SV) (k:List ByteArray):Prop:=(k=[]∧X=.fl [] 0)∨∃ q,S0.nx≤q∧q<S.nx∧X=.tp q 0 (k.map dS) k.length∧S.T q=some (k.length,1)
theorem AccN.nil {S0 S:St}:AccN S0 S (.fl [] 0) []:=.inl ⟨rfl,rfl⟩
theorem AccN.toD {S0 S:St}{X:SV}{k:List ByteArray} (h:AccN S0 S X k):X.toD=some (namesD k):=by
  rcases h with ⟨rfl,rfl⟩ | ⟨q,_,_,rfl,_⟩<;>rfl
theorem AccN.mono {S0 S S':St}{X:SV}{k:List ByteArray} (h:AccN S0 S X k) (hn:S.nx≤S'.nx) (hT:∀ i,i<S.nx→S'.T i=S.T i):AccN S0 S' X k :=
  h.imp id fun ⟨q,h1,h2,h3,h4⟩=>⟨q,h1,by omega,h3,(hT q h2).trans h4⟩
theorem AccN.add {P:Program}{S0 S:St}{X:SV}{k l:List ByteArray}{id:Nat}{dst:Option Nat}{T e:TypeId}{by_:Nat} (h:AccN S0 S X k) (hT:appOf P T=some (e,1,by_)) (hmd:S.md=[]) (hid:S0.nx≤id) (hid2:id<S.nx) (hb:appBound k.length l.length by_) :
    ∃ X' E',evalAppend P S id dst T X (.d (namesD l))=some (X',E')∧AccN S0 (S.app id E') X' (k++l)∧(S.app id E').B=S.B∧(S.app id E').nx=S.nx∧(S.app id E').n=S.n∧(S.app id E').gl=S.gl∧(S.app id E').md=S.md∧∀ i,i<S0.nx→(S.app id E').T i=S.T i:=by
  have hr:rowS (.d (namesD l))=some (l.map dS,l.length):=by simp
  rcases h with ⟨rfl,rfl⟩ | ⟨q,h1,h2,rfl,h3⟩
  · by_cases hl:l.length=0
    · refine⟨.fl [] 0, .no,?_, .inl ⟨by simp[List.eq_nil_of_length_eq_zero hl],rfl⟩,rfl,rfl,rfl,rfl,rfl,fun _ _=>rfl⟩
      rw[evalAppend_fl,hr,hT]
      simp[appFl,hl]
    · refine⟨.tp id 0 (l.map dS) l.length, .tip id l.length 1,?_, .inr ⟨id,hid,hid2,by simp,by simp⟩,rfl,rfl,rfl,rfl,rfl,fun i hi=>?_⟩
      · rw[evalAppend_fl,hr,hT,hmd]
        have hl2:¬ l=[]:=fun e=>hl (by rw[e];rfl)
        have hb:appBound 0 l.length by_:=hb
        simp[appFl,hl,onlyIf,hb]
      · simp;omega
  · refine⟨.tp q 0 ((k++l).map dS) (k++l).length, .tip q (k.length+l.length) 1,?_, .inr ⟨q,h1,h2,rfl,by simp⟩,rfl,rfl,rfl,rfl,rfl,fun i hi=>?_⟩
    · rw[evalAppend_tp,hr,hT]
      simp[appTp,onlyIf,h3,hb]
    · simp;omega
structure SameB (S S':St):Prop where
  B:S'.B=S.B
  nx:S'.nx=S.nx
  n:S'.n=S.n
  gl:S'.gl=S.gl
  md:S'.md=S.md
theorem OpT_addN {P:Program}{S0 S1 S:St}{X:SV}{k l:List ByteArray}{id:Nat}{dst:Option Nat}{T e:TypeId}{by_:Nat}{K:Bool→SV→Eff→Prop} (h:AccN S0 S1 X k) (hn:S1.nx≤S.nx) (hTT:∀ i,i<S1.nx→S.T i=S1.T i) (hT:appOf P T=some (e,1,by_)) (hmd:S.md=[]) (hid:S0.nx≤id) (hid2:id<S.nx) (hb:appBound k.length l.length by_)
    (hK:∀ X' S' E',S.app id E'=S'→AccN S0 S' X' (k++l)→SameB S S'→(∀ i,i<S0.nx→S'.T i=S.T i)→K true X' E'):OpT (evalAppend P S id dst T X (.d (namesD l))) K:=by
  obtain⟨X',E',h1,h2,h3,h4,h5,h6,h7,h8⟩:=(h.mono hn hTT).add (id:=id) (dst:=dst) (l:=l) hT hmd hid hid2 hb
  rw[h1]
  exact hK X' _ E' rfl h2 ⟨h3,h4,h5,h6,h7⟩ h8
theorem LCall_T {P:Program}{f:FuncId}{ss:List SV}{r:SV}{S:St}{k:Nat}{L:List (Nat×List SV)} (h:LCall P f ss S r (leftS S k L [])):LCall P f ss S r { S with B:=leftF S.nx S.B L,nx:=S.nx+k }:=by
  refine⟨h.1,⟨h.2.1.n,h.2.1.md,h.2.1.gl,h.2.1.nx⟩,fun m0 w0 G E F a w vals hr hF hl hv=>?_⟩
  have e:leftS S k L []={ S with B:=leftF S.nx S.B L,nx:=S.nx+k }:=by
    have hT:(leftS S k L []).T=S.T:=funext fun x=>by
      simp only[leftS_T,leftF_nil]
      split
      · rfl
      · rename_i hx
        cases hb:S.T x with
        | none=>rfl
        | some p =>
          exfalso
          have hf:=hF x (by omega)
          obtain⟨k,sz⟩:=p
          obtain⟨B,v,_,_,cap,_,h1,_⟩:=hr.tip x k sz hb
          rw[(hr.fresh x hf).2] at h1;cases h1
    show ({ S with B:=leftF S.nx S.B L,T:=(leftS S k L []).T,nx:=S.nx+k }:St)=_
    rw[hT]
  have k:=h.2.2 m0 w0 G E F a w vals hr hF hl hv
  rw[e] at k
  exact k
theorem OwnK.left {P:Program}{g:FuncId}{ss:List SV}{S:St}{base top:Nat}{r:SV}{k:Nat}{L:List (Nat×List SV)} (h:∀ S1:St,S1.nx=S.nx→S1.gl=S.gl→LCall P g ss S1 r (leftS S1 k L [])) (ht:top≤S.nx) (hL:∀ p∈L,top≤p.1) :
    OwnK P g ss S base top r (fun B0=>leftF S.nx B0 L) (S.nx+k):=by
  have no:∀ q,q<top→lookN L q=none:=fun q hq=>by
    cases hx:lookN L q with
    | none=>rfl
    | some y=>have:=hL _ (lookN_mem hx);simp only at this;omega
  refine⟨fun S1 k1 k2 k3 k4 k5 k6=>?_,fun B0 q cs hq=>?_,fun B0 b hb=>?_,fun B0 C b hb=>?_⟩
  · have:=LCall_T (h S1 k2 k3)
    rw[k2] at this
    exact this
  · funext x
    simp only[upd]
    by_cases e:x=q
    · subst e
      rw[leftF_old (no x hq) (by omega)];simp
    · simp[leftF,upd,e]
  · exact leftF_old (no b hb) (by omega)
  · simp only[leftF,hb]
end Go.Proofs.YtlmpjblmmpddeaaGreat
namespace Go.Proofs.YtlmpjblmmpddeaaGreat
open Go.Sh
variable {gl:Nat→Option D}
def tyName:Typ→ByteArray | .mk t _ _=>t
def fldNext (l:List Def) (f:Fld):Option ByteArray:=if isReq f.ty=true∧kindL l (tyName f.ty)=3 then some (tyName f.ty) else none
def nextN (l:List Def) (s:ByteArray):List ByteArray:=if kindL l s=3 then (defL l s).flds.filterMap (fldNext l) else []
abbrev defNames (l:List Def):List ByteArray:=l.map Def.name
theorem kind_name {l:List Def}{s:ByteArray} (h:kindL l s≠0):s∈defNames l:=by
  cases ha:atD l s with
  | none=>exact absurd (by rw[kindL,defL_none ha];rfl) h
  | some j =>
    have:=List.findIdx?_eq_some_iff_getElem.1 ha
    obtain⟨h1,h2,_⟩:=this
    exact List.mem_map.2 ⟨_,List.getElem_mem h1,by simpa using h2⟩
theorem next_kind {l:List Def}{x y:ByteArray} (h:y∈nextN l x):kindL l x=3∧kindL l y=3:=by
  unfold nextN at h
  split at h
  · rename_i h1
    obtain⟨f,_,hf⟩:=List.mem_filterMap.1 h
    unfold fldNext at hf
    split at hf
    · rename_i h2;cases hf;exact⟨h1,h2.2⟩
    · cases hf
  · cases h
theorem next_name {l:List Def} (x y:ByteArray) (h:y∈nextN l x):y∈defNames l:=kind_name (by rw[(next_kind h).2];decide)
def knowF (l:List Def) (n:Nat) (k:List ByteArray) (fs:List Fld):List ByteArray:=(fs.filterMap (fldNext l)).foldl (fun k y=>if memB y k=true then k else needsG (nextN l) n y (k++[y])) k
def knowS (l:List Def) (n:Nat) (k:List ByteArray) (f:Fld):List ByteArray:=match fldNext l f with | some y=>if memB y k=true then k else needsG (nextN l) n y (k++[y]) | none=>k
theorem knowF_next {l:List Def}{n:Nat}{k:List ByteArray}{fs:List Fld}{i:Nat} (hi:i<fs.length):knowF l n k (fs.take (i+1))=knowS l n (knowF l n k (fs.take i)) fs[i]:=by
  unfold knowF knowS
  rw[List.take_succ_eq_append_getElem hi,List.filterMap_append,List.foldl_append]
  cases h:fldNext l fs[i] with
  | none=>simp[h]
  | some y=>simp[h]
theorem knowS_no {l:List Def}{n:Nat}{k:List ByteArray}{f:Fld} (h:¬ (isReq f.ty=true∧kindL l (tyName f.ty)=3)):knowS l n k f=k:=by unfold knowS fldNext;rw[if_neg h]
theorem knowS_in {l:List Def}{n:Nat}{k:List ByteArray}{f:Fld} (h:memB (tyName f.ty) k=true):knowS l n k f=k:=by
  unfold knowS fldNext
  by_cases c:isReq f.ty=true∧kindL l (tyName f.ty)=3
  · rw[if_pos c];simp only;rw[if_pos h]
  · rw[if_neg c]
theorem knowS_new {l:List Def}{n:Nat}{k:List ByteArray}{f:Fld} (h1:isReq f.ty=true) (h2:kindL l (tyName f.ty)=3) (h:memB (tyName f.ty) k=false):knowS l n k f=needsG (nextN l) n (tyName f.ty) (k++[tyName f.ty]):=by
  unfold knowS fldNext
  rw[if_pos ⟨h1,h2⟩];simp only;rw[if_neg (by simp[h])]
theorem needs_no {l:List Def}{n:Nat}{s:ByteArray}{k:List ByteArray} (h:kindL l s≠3):needsG (nextN l) (n+1) s k=k:=by
  rw[needsG]
  have:nextN l s=[]:=if_neg h
  rw[this];rfl
theorem needs_yes {l:List Def}{n:Nat}{s:ByteArray}{k:List ByteArray} (h:kindL l s=3):needsG (nextN l) (n+1) s k=knowF l n k (defL l s).flds:=by
  rw[needsG,nextN,if_pos h];rfl
theorem know_grew {l:List Def}{n:Nat}{s:ByteArray}{k:List ByteArray} (h:KnownIn (defNames l) k) (hl:(defNames l).length<n+1+k.length) (h3:kindL l s=3) (i:Nat):Grew (nextN l) (defNames l) s k (knowF l n k ((defL l s).flds.take i)):=by
  refine grew_part next_name h hl fun y hy=>?_
  rw[nextN,if_pos h3]
  obtain⟨f,hf,e⟩:=List.mem_filterMap.1 hy
  exact List.mem_filterMap.2 ⟨f,List.mem_of_mem_take hf,e⟩
theorem flds_small {l:List Def} (hd:∀ d∈l,defB d=true∧DefOk d) {s:ByteArray} (h:kindL l s≠0):DefOk (defL l s):=(hd _ (defL_mem h)).2
theorem look_kind (l:List Def) (s:ByteArray):∃ r,lookS Tryz.prog 72 (ksD l) (l.map (SV.d∘Def.d)) s false=some r∧fieldE Tryz.prog (some r) (some (3,1))=some (.d (dI (kindL l s)), .no):=by
  cases h:atD l s with
  | none=>exact⟨_,look_none h,by rw[kindL,defL_none h];kernel_rfl⟩
  | some j=>exact⟨_,look_some h,by simp[kindL]⟩
set_option maxHeartbeats 4000000 in
theorem p_needs (l:List Def) (hd:∀ d∈l,defB d=true∧DefOk d) (hll:l.length≤1000000):∀ (n:Nat) (s:ByteArray) (k:List ByteArray) (S0:St) (q:Nat),KnownIn (defNames l) k→(defNames l).length<n+k.length→q<S0.nx→S0.T q=some (k.length,1) →
    LCall Tryz.prog 114 [.d (schD l), .d (dS s), .tp q 0 (k.map dS) k.length] S0 (.tp q 0 ((needsG (nextN l) n s k).map dS) (needsG (nextN l) n s k).length) (leftS S0 0 [] [(q,((needsG (nextN l) n s k).length,1))])
  | 0,s,k,S0,q,hK,hl,hq,hT=>by
    have:=nodup_len hK.nodup hK.sub
    omega
  | n+1,s,k,S0,q,hK,hl,hq,hT=>by
    have ih:=p_needs l hd hll n
    have ne:∀ k,S0.nx≤k→¬ q=k:=fun k=>by omega
    have hkl:=nodup_len hK.nodup hK.sub
    have hdl:(defNames l).length=l.length:=by simp
    refine LCall.byE (md:=[]) (leftS_keeps _ _ _ _) (by simp[SV.lt]<;>omega) Tryz.func114 rfl (by kernel_rfl) (n:=53) Tryz.ntmps114 (by simp) (by decide) rfl ?_
    simp
    cases ha:atD l s with
    | none =>
      have hz:needsG (nextN l) (n+1) s k=k:=needs_no (by rw[kindL,defL_none ha];decide)
      refine⟨_,look_none ha,?_⟩
      simp[hz]
      refine elder_old (bs:=[]) (ts:=[q]) ?_ ?_ ?_ ?_ ?_ ?_ ?_
      · simp
      · simp
      · simp[hT]
      · simp
      · simp[hq]
      · simp
      · simp
    | some j =>
      refine⟨_,look_some ha,?_⟩
      have hkk:kindL l s=(defL l s).kind:=rfl
      simp
      refine BrT.dec (fun c3=>?_) (fun c3=>?_)
      · have c3:kindL l s=3:=by rw[hkk];omega
        have hz:needsG (nextN l) (n+1) s k=knowF l n k (defL l s).flds:=needs_yes c3
        have hsm:=(flds_small hd (s:=s) (by omega)).2.1.1
        have hgr:=know_grew hK hl c3
        simp
        refine⟨_,look_some ha,?_⟩
        have hc2:(defL l s).cells[2]?=some (fldsD (defL l s).flds):=rfl
        generalize (defL l s).flds=fs at hz hsm hgr hc2
        simp[hz,hc2]
        refine LoopT.round (fun E S=>∃ (i:Nat) (kn:List ByteArray),(i≤fs.length)∧E 0=some (.d (schD l))∧E 2=some (.tp q 0 (kn.map dS) kn.length)∧E 19=some (.d (fldsD fs))∧E 20=some (.d (dI fs.length))∧E 21=some (.d (dI i))∧(S.T q=some (kn.length,1))∧(Old S0 [] [q] S)∧(kn=knowF l n k (fs.take i))∧(S0.nx≤S.nx)) (upTo 21 fs.length) ⟨0,k,by simp[hT];rfl⟩ ?_
        rintro E S hk ⟨i,kn,hi,h0,h2,h19,h20,h21,hTq,ho,hkn,hx⟩
        have hn:S.n=53:=by first | (simpa using hk.n)|(have hh:=hk.n;simp[hT,c3,hz,hc2] at hh;exact hh)
        have hg:S.gl=S0.gl:=by first | (simpa using hk.gl)|(have hh:=hk.gl;simp[hT,c3,hz,hc2] at hh;exact hh)
        have hmd:S.md=[]:=by first | (simpa using hk.md)|(have hh:=hk.md;simp[hT,c3,hz,hc2] at hh;exact hh)
        simp[h20,h21,hn,hg]
        have w:=wrap64 (n:=(i:Int)+1) (by omega) (by omega)
        refine BrT.dec (fun c=>?_) (fun c=>?_)
        · have hi2:i<fs.length:=by omega
          have hlen:=flds_len fs
          have hfit:i*5+5≤fs.length*5:=by omega
          have hat:=flds_at fs hi2
          have hstep:=knowF_next (l:=l) (n:=n) (k:=k) hi2
          have hg1:=hgr i
          have hg2:=hgr (i+1)
          rw[hstep] at hg2
          rw[← hkn] at hstep hg1 hg2
          have hle1:=nodup_len hg1.inv.nodup hg1.inv.sub
          generalize fs[i]=f at hat hstep hg2
          obtain⟨nm,args,ty⟩:=f
          cases ty with
          | mk t lt b =>
          simp only[Fld.cells,Typ.cells] at hat
          simp[h19,h21,hn,c,hlen,hfit,hat]
          have same:knowS l n kn ⟨nm,args, .mk t lt b⟩=kn→kn=knowF l n k (fs.take (i+1)):=fun e=>by rw[hstep,e]
          refine BrT.mk (fun cb=>?_) (fun cb=>?_)
          case refine_2=>(have e:=same (knowS_no fun h=>by have:=h.1.symm.trans cb;cases this);simp[h0,h2,h19,h20,h21,hn,w,hTq,cb];exact⟨⟨i+1,hi2,kn,⟨rfl,rfl⟩,by omega,rfl,by rw[old_set (by omega),old_new (by omega)];exact ho,e,by omega⟩,upTo_lt h21 (by simp) hi2⟩)
          obtain⟨r,hr,hr2⟩:=look_kind l t
          simp[h0,hn,cb]
          refine⟨r,hr,?_⟩
          simp[hn,hr2]
          refine BrT.dec (fun ck=>?_) (fun ck=>?_)
          case refine_2=>(have e:=same (knowS_no fun h=>ck h.2);simp[h0,h2,h19,h20,h21,hn,w,hTq,ck];exact⟨⟨i+1,hi2,kn,⟨rfl,rfl⟩,by omega,rfl,by rw[old_set (by omega),old_new (by omega)];exact ho,e,by omega⟩,upTo_lt h21 (by simp) hi2⟩)
          simp[h2,hn,ck]
          repeat refine⟨DrawT.mk (by kernel_rfl),?_⟩
          refine CallT.p0 (p_Contains kn t (by omega)) (by first | rfl | (simp;done)|(simp[hT,c3,hz,hc2,h0,h2,h19,h20,h21,hn,hg,hmd,c,hi2,w,hlen,hfit,hat,hTq,cb,hr2,ck];done)) (by first | rfl | (simp;done)|(simp;rfl)|(simp[hT,c3,hz,hc2,h0,h2,h19,h20,h21,hn,hg,hmd,c,hi2,w,hlen,hfit,hat,hTq,cb,hr2,ck];done)) ?_
          simp[hn]
          refine BrT.mk (fun cm=>?_) (fun cm=>?_)
          case refine_1=>(have e:=same (knowS_in cm);simp[h0,h2,h19,h20,h21,hn,w,hTq,cm];exact⟨⟨i+1,hi2,kn,⟨rfl,rfl⟩,by omega,rfl,by rw[old_set (by omega),old_new (by omega)];exact ho,e,by omega⟩,upTo_lt h21 (by simp) hi2⟩)
          rw[knowS_new (f:=⟨nm,args, .mk t lt b⟩) cb ck cm] at hstep hg2
          simp only[tyName] at hstep hg2
          have hmem:¬ t∈kn:=fun h=>by rw[memB_iff.2 h] at cm;cases cm
          have hK2:KnownIn (defNames l) (kn++[t]):=hg1.inv.snoc (kind_name (by rw[ck];decide)) hmem
          have hle0:=hg1.len
          have hl2:(defNames l).length<n+(kn++[t]).length:=by simp only[List.length_append,List.length_singleton];omega
          simp[h0,h2,hn,hmd,hTq,cm]
          rw[show List.map dS kn++[D.v (Value.string t)]=(kn++[t]).map dS by simp,show kn.length+1=(kn++[t]).length by simp]
          refine⟨by unfold appBound;omega,CallT.l (ih t (kn++[t]) _ q hK2 hl2 ?_ ?_) rfl ?_⟩
          · simp;omega
          · simp
          simp[h0,h19,h20,h21,hn,w]
          refine⟨⟨i+1,hi2,_,⟨rfl,rfl⟩,by omega,rfl,?_,hstep.symm,by omega⟩,upTo_lt h21 (by simp) hi2⟩
          refine old_left (by simp;omega) (by simp) (by simp) ?_
          rw[old_tipIn (by simp)]
          simp only[old_adv]
          rw[old_set (by omega),old_new (by omega)]
          exact ho
        · have hi3:i=fs.length:=by omega
          subst hi3
          rw[List.take_length] at hkn
          simp[h2,hn,c]
          rw[← hkn]
          refine⟨⟨rfl,rfl⟩,?_⟩
          refine elder_old (bs:=[]) (ts:=[q]) ?_ ?_ ?_ ?_ ?_ ?_ ?_
          · exact ho
          · simp
          · simp[hTq]
          · simp
          · simp[hq]
          · simp
          · simp
      · have hz:needsG (nextN l) (n+1) s k=k:=needs_no (by rw[hkk];exact c3)
        simp[c3,hz]
        refine elder_old (bs:=[]) (ts:=[q]) ?_ ?_ ?_ ?_ ?_ ?_ ?_
        · simp
        · simp
        · simp[hT]
        · simp
        · simp[hq]
        · simp
        · simp
set_option maxHeartbeats 4000000 in
theorem p_needs0 (l:List Def) (hd:∀ d∈l,defB d=true∧DefOk d) (hll:l.length≤1000000) (S0:St) (s:ByteArray) :
    LCall Tryz.prog 114 [.d (schD l), .d (dS s), .fl [] 0] S0 (.d (namesD (needsG (nextN l) (l.length+1) s []))) (leftS S0 0 [] []):=by
    have hdl:(defNames l).length=l.length:=by simp
    have ih:=p_needs l hd hll l.length
    have hK:KnownIn (defNames l) []:=⟨by simp,by simp⟩
    have hl:(defNames l).length<l.length+1+([]:List ByteArray).length:=by simp
    refine LCall.byD (md:=[]) (leftS_keeps _ _ _ _) Tryz.func114 rfl (by kernel_rfl) (n:=53) Tryz.ntmps114 (by simp) (by decide) rfl ?_
    simp
    cases ha:atD l s with
    | none =>
      have hz:needsG (nextN l) (l.length+1) s []=[]:=needs_no (by rw[kindL,defL_none ha];decide)
      refine⟨_,look_none ha,?_⟩
      simp[hz]
      refine elder_old (bs:=[]) (ts:=[]) (Old.refl _ _ _) (by simp) (by simp) (by simp) (by simp) (by simp) (by simp)
    | some j =>
      refine⟨_,look_some ha,?_⟩
      have hkk:kindL l s=(defL l s).kind:=rfl
      simp
      refine BrT.dec (fun c3=>?_) (fun c3=>?_)
      · have c3:kindL l s=3:=by rw[hkk];omega
        have hz:needsG (nextN l) (l.length+1) s []=knowF l l.length [] (defL l s).flds:=needs_yes c3
        have hsm:=(flds_small hd (s:=s) (by omega)).2.1.1
        have hgr:=know_grew hK hl c3
        simp
        refine⟨_,look_some ha,?_⟩
        have hc2:(defL l s).cells[2]?=some (fldsD (defL l s).flds):=rfl
        generalize (defL l s).flds=fs at hz hsm hgr hc2
        simp[hz,hc2]
        refine LoopT.round (fun E S=>∃ (i:Nat) (X:SV) (kn:List ByteArray),(i≤fs.length)∧E 0=some (.d (schD l))∧E 2=some (X)∧E 19=some (.d (fldsD fs))∧E 20=some (.d (dI fs.length))∧E 21=some (.d (dI i))∧(AccN S0 S X kn)∧(Old S0 [] [] S)∧(kn=knowF l l.length [] (fs.take i))∧(S0.nx≤S.nx)) (upTo 21 fs.length) ⟨0, .fl [] 0,[],by simp;exact⟨AccN.nil,rfl⟩⟩ ?_
        rintro E S hk ⟨i,X,kn,hi,h0,h2,h19,h20,h21,hA,ho,hkn,hx⟩
        have hn:S.n=53:=by first | (simpa using hk.n)|(have hh:=hk.n;simp[c3,hz,hc2] at hh;exact hh)
        have hg:S.gl=S0.gl:=by first | (simpa using hk.gl)|(have hh:=hk.gl;simp[c3,hz,hc2] at hh;exact hh)
        have hmd:S.md=[]:=by first | (simpa using hk.md)|(have hh:=hk.md;simp[c3,hz,hc2] at hh;exact hh)
        simp[h20,h21,hn,hg]
        have w:=wrap64 (n:=(i:Int)+1) (by omega) (by omega)
        refine BrT.dec (fun c=>?_) (fun c=>?_)
        · have hi2:i<fs.length:=by omega
          have hlen:=flds_len fs
          have hfit:i*5+5≤fs.length*5:=by omega
          have hat:=flds_at fs hi2
          have hstep:=knowF_next (l:=l) (n:=l.length) (k:=[]) hi2
          have hg1:=hgr i
          have hg2:=hgr (i+1)
          rw[hstep] at hg2
          rw[← hkn] at hstep hg1 hg2
          have hle1:=nodup_len hg1.inv.nodup hg1.inv.sub
          generalize fs[i]=f at hat hstep hg2
          obtain⟨nm,args,ty⟩:=f
          cases ty with
          | mk t lt b =>
          simp only[Fld.cells,Typ.cells] at hat
          have hXd:=hA.toD
          simp[h19,h21,hn,c,hlen,hfit,hat]
          have same:knowS l l.length kn ⟨nm,args, .mk t lt b⟩=kn→kn=knowF l l.length [] (fs.take (i+1)):=fun e=>by rw[hstep,e]
          refine BrT.mk (fun cb=>?_) (fun cb=>?_)
          case refine_2=>(have e:=same (knowS_no fun h=>by have:=h.1.symm.trans cb;cases this);simp[h0,h2,h19,h20,h21,hn,w,cb];exact⟨⟨i+1,hi2,by omega,kn,hA.mono (by simp<;>omega) (fun _ _=>rfl),by rw[old_set (by omega),old_new (by omega)];exact ho,e,by omega⟩,upTo_lt h21 (by simp) hi2⟩)
          obtain⟨r,hr,hr2⟩:=look_kind l t
          simp[h0,hn,cb]
          refine⟨r,hr,?_⟩
          simp[hn,hr2]
          refine BrT.dec (fun ck=>?_) (fun ck=>?_)
          case refine_2=>(have e:=same (knowS_no fun h=>ck h.2);simp[h0,h2,h19,h20,h21,hn,w,ck];exact⟨⟨i+1,hi2,by omega,kn,hA.mono (by simp<;>omega) (fun _ _=>rfl),by rw[old_set (by omega),old_new (by omega)];exact ho,e,by omega⟩,upTo_lt h21 (by simp) hi2⟩)
          simp[h2,hn,ck]
          repeat refine⟨DrawT.mk (by kernel_rfl),?_⟩
          refine CallT.p0 (p_Contains kn t (by omega)) (by first | rfl | (simp;done)|(simp[c3,hz,hc2,h0,h2,h19,h20,h21,hn,hg,hmd,c,hi2,w,hlen,hfit,hat,hXd,cb,hr2,ck];done)) (by first | rfl | (simp;done)|(simp;rfl)|(simp[hXd];done)) ?_
          simp[hn]
          refine BrT.mk (fun cm=>?_) (fun cm=>?_)
          case refine_1=>(have e:=same (knowS_in cm);simp[h0,h2,h19,h20,h21,hn,w,cm];exact⟨⟨i+1,hi2,by omega,kn,hA.mono (by simp<;>omega) (fun _ _=>rfl),by rw[old_set (by omega),old_new (by omega)];exact ho,e,by omega⟩,upTo_lt h21 (by simp) hi2⟩)
          rw[knowS_new (f:=⟨nm,args, .mk t lt b⟩) cb ck cm] at hstep hg2
          simp only[tyName] at hstep hg2
          have hmem:¬ t∈kn:=fun h=>by rw[memB_iff.2 h] at cm;cases cm
          have hK2:KnownIn (defNames l) (kn++[t]):=hg1.inv.snoc (kind_name (by rw[ck];decide)) hmem
          have hle0:=hg1.len
          have hl2:(defNames l).length<l.length+(kn++[t]).length:=by simp only[List.length_append,List.length_singleton];omega
          rcases hA with ⟨rfl,rfl⟩ | ⟨q,hq0,hq1,rfl,hTq⟩
          · simp[h0,h2,hn,hmd,cm]
            have hq0:S0.nx≤S.nx+1+4+4+16+5:=by omega
            refine⟨by decide,CallT.l (ih t [t] _ (S.nx+1+4+4+16+5) hK2 hl2 ?_ ?_) rfl ?_⟩
            · simp
            · simp
            simp[h0,h19,h20,h21,hn,w]
            refine⟨⟨i+1,hi2,by omega,_, .inr ⟨_,hq0,?_,rfl,?_⟩,?_,hstep.symm,by omega⟩,upTo_lt h21 (by simp) hi2⟩
            · simp<;>omega
            · simp
            refine old_left (by simp;omega) (by simp) (by simp;omega) ?_
            rw[old_tip (by omega)]
            simp only[old_adv]
            rw[old_set (by omega),old_new (by omega)]
            exact ho
          · simp[h0,h2,hn,hmd,cm,hTq]
            rw[show List.map dS kn++[D.v (Value.string t)]=(kn++[t]).map dS by simp,show kn.length+1=(kn++[t]).length by simp]
            refine⟨by unfold appBound;omega,CallT.l (ih t (kn++[t]) _ q hK2 hl2 ?_ ?_) rfl ?_⟩
            · simp<;>omega
            · simp
            simp[h0,h19,h20,h21,hn,w]
            refine⟨⟨i+1,hi2,by omega,_, .inr ⟨_,hq0,?_,rfl,?_⟩,?_,hstep.symm,by omega⟩,upTo_lt h21 (by simp) hi2⟩
            · simp<;>omega
            · simp
            refine old_left (by simp;omega) (by simp) (by simp;omega) ?_
            rw[old_tip (by omega)]
            simp only[old_adv]
            rw[old_set (by omega),old_new (by omega)]
            exact ho
        · have hi3:i=fs.length:=by omega
          subst hi3
          rw[List.take_length] at hkn
          simp[h2,hn,c]
          rw[← hkn]
          refine⟨hA.toD,?_⟩
          refine elder_old (bs:=[]) (ts:=[]) ho (by simp) (by simp) (by simp) (by simp) (by simp) (by simp)
      · have hz:needsG (nextN l) (l.length+1) s []=[]:=needs_no (by rw[hkk];exact c3)
        simp[c3,hz]
        refine elder_old (bs:=[]) (ts:=[]) (Old.refl _ _ _) (by simp) (by simp) (by simp) (by simp) (by simp) (by simp)
theorem LCall_same {P:Program}{f:FuncId}{ss:List SV}{r:SV}{S:St} (h:LCall P f ss S r (leftS S 0 [] [])):LCall P f ss S r S:=by
  refine⟨h.1,Keeps.refl _,fun m0 w0 G E F a w vals hr hF hl hv=>?_⟩
  have e:leftS S 0 [] []=S:=by
    have hB:(leftS S 0 [] []).B=S.B:=funext fun x=>by
      simp only[leftS_B,leftF_nil]
      split
      · rfl
      · rename_i hx
        cases hb:S.B x with
        | none=>rfl
        | some cs =>
          exfalso
          have hf:=hF x (by omega)
          have ho:=hr.more.ofresh x hf
          obtain⟨B,_,_,h1,_⟩:=hr.box x cs hb ho
          rw[(hr.fresh x hf).1] at h1;cases h1
    have hT:(leftS S 0 [] []).T=S.T:=funext fun x=>by
      simp only[leftS_T,leftF_nil]
      split
      · rfl
      · rename_i hx
        cases hb:S.T x with
        | none=>rfl
        | some p =>
          exfalso
          have hf:=hF x (by omega)
          obtain⟨k,sz⟩:=p
          obtain⟨B,v,_,_,cap,_,h1,_⟩:=hr.tip x k sz hb
          rw[(hr.fresh x hf).2] at h1;cases h1
    show ({ S with B:=(leftS S 0 [] []).B,T:=(leftS S 0 [] []).T,nx:=S.nx+0 }:St)=S
    rw[hB,hT];rfl
  have k:=h.2.2 m0 w0 G E F a w vals hr hF hl hv
  rw[e] at k
  exact k
theorem OwnK.data {P:Program}{g:FuncId}{ss:List SV}{S:St}{base top:Nat}{x:D} (h:∀ S1:St,S1.gl=S.gl→LCall P g ss S1 (.d x) S1):OwnK P g ss S base top (.d x) (fun B=>B) S.nx where
  call S1 _ h2 h3 _ _ _:=by
    have e:({ S1 with B:=S1.B,nx:=S.nx }:St)=S1:=by rw[← h2]
    rw[e];exact h S1 h3
  loc _ _ _ _:=rfl
  keep _ _ _:=rfl
  pw _ _ _ e:=e
theorem needs_len (l:List Def) (s:ByteArray):(needsG (nextN l) (l.length+1) s []).length≤4611686018427387904∨4611686018427387904<l.length:=by
  have h:=(needs_grew (nx:=nextN l) (U:=defNames l) next_name (l.length+1) s [] ⟨by simp,by simp⟩ (by simp)).1.inv
  have:=nodup_len h.nodup h.sub
  simp at this
  omega
set_option maxHeartbeats 2000000 in
theorem p_round1 (l:List Def) (hd:∀ d∈l,defB d=true∧DefOk d) (hll:l.length≤1000000) (d:Def):PCall Tryz.prog gl 112 [d.d, .pp [schD l] 0] (dB (!memB d.name (needsG (nextN l) (l.length+1) d.name []))):=by
  obtain⟨nm,kind,flds,words⟩:=d
  refine PCall.by_ (md:=[]) Tryz.func112 rfl (by kernel_rfl) (n:=12) Tryz.ntmps112 (by simp) (by decide) rfl ?_
  simp[Def.cells]
  refine⟨DrawT.mk (by kernel_rfl),?_⟩
  refine CallT.own [((5,2),3)] (by kernel_rfl) (by kernel_rfl) (by simp[Eh.e]) (OwnK.data fun S1 _=>LCall_same (p_needs0 l hd hll S1 nm)) ?_
  simp
  repeat refine⟨DrawT.mk (by kernel_rfl),?_⟩
  refine CallT.p0 (p_Contains (needsG (nextN l) (l.length+1) nm []) nm ((needs_len l nm).resolve_right (by omega))) (by first | rfl | (simp;done)|(simp[Def.cells];done)) (by first | rfl | (simp;done)|(simp;rfl)|(simp[Def.cells];done)) ?_
  simp
set_option maxHeartbeats 2000000 in
theorem p_hasRound (l:List Def) (hd:∀ d∈l,defB d=true∧DefOk d) (hll:l.length≤1000000):PCall Tryz.prog gl 52 [schD l] (dB (l.any fun d=>memB d.name (needsG (nextN l) (l.length+1) d.name []))):=by
  have h:=p_eachDef (gl:=gl) l 112 [.pp [schD l] 0] (fun d=>!memB d.name (needsG (nextN l) (l.length+1) d.name [])) fun d hm=>p_round1 l hd hll d
  have e:(l.any fun d=>memB d.name (needsG (nextN l) (l.length+1) d.name [])) = !(l.all fun d=>!memB d.name (needsG (nextN l) (l.length+1) d.name [])):=by
    rw[List.all_eq_not_any_not];simp
  rw[e]
  refine PCall.by_ (md:=[]) Tryz.func52 rfl (by kernel_rfl) (n:=7) Tryz.ntmps52 (by simp) (by decide) rfl ?_
  simp
  refine CallT.l (LCall.ofP (k:=9) h (by simp)) rfl ?_
  simp
theorem schGo_len:∀ (r acc:List Def),(schGo acc r).length≤acc.length+r.length∧((schGo acc r).length=acc.length+r.length→schGo acc r=acc++r)
  | [],acc=>by simp[schGo]
  | d::r,acc=>by
    unfold schGo
    split
    · obtain⟨h1,h2⟩:=schGo_len r (acc++[d])
      simp at h1 h2 ⊢
      exact⟨by omega,fun h=>h2 (by omega)⟩
    · obtain⟨h1,h2⟩:=schGo_len r acc
      simp at h1 ⊢
      exact⟨by omega,fun h=>by omega⟩
theorem schL_self {l:List Def} (h:(schL l).length=l.length):schL l=l:=by
  have:=(schGo_len l []).2 (by simpa[schL] using h)
  simpa[schL] using this
def roundB (l:List Def):Bool:=l.any fun d=>memB d.name (needsG (nextN l) (l.length+1) d.name [])
def checkS (l:List Def):Int :=
  if ¬ (schL l).length=l.length then 2 else if ¬ (l.all (defHere l))=true then 3 else if ¬ (l.all (defPlaced l))=true then 4 else if ¬ rootsB l=true then 5 else if ¬ (l.all (defFits l))=true then 6 else if roundB l=true then 7 else 0
def checkB (l:List Def):Int:=if 10<l.length then 1 else if ¬ (l.all defB)=true then 1 else checkS l
set_option maxHeartbeats 4000000 in
theorem p_SchemaCheck (l:List Def) (hl:l.length≤4611686018427387904) (hok:∀ d∈l,DefOk d):PCall Tryz.prog gl 14 [defsD l] (dI (checkB l)):=by
  refine PCall.by_ (md:=[]) Tryz.func14 rfl (by kernel_rfl) (n:=46) Tryz.ntmps14 (by simp) (by decide) rfl ?_
  simp
  refine BrT.dec (fun c0=>?_) (fun c0=>?_)
  · have hz:checkB l=1:=if_pos (by omega)
    simp[c0,hz]
  have hl10:¬ 10<l.length:=by omega
  have hz0:checkB l=if ¬ (l.all defB)=true then 1 else checkS l:=if_neg hl10
  simp[c0]
  refine LoopT.round (fun E S=>∃ (i:Nat),(i≤l.length)∧E 0=some (.d (defsD l))∧E 9=some (.d (defsD l))∧E 10=some (.d (dI l.length))∧E 11=some (.d (dI i))∧(allUp defB l i)) (upTo 11 l.length) ⟨0,by simp;exact allUp_zero _ _⟩ ?_
  rintro E S hk ⟨i,hi,h0,h9,h10,h11,hp⟩
  have hn:S.n=46:=by first | (simpa using hk.n)|(have hh:=hk.n;simp[c0] at hh;exact hh)
  have hg:S.gl=gl:=by first | (simpa using hk.gl)|(have hh:=hk.gl;simp[c0] at hh;exact hh)
  have hmd:S.md=[]:=by first | (simpa using hk.md)|(have hh:=hk.md;simp[c0] at hh;exact hh)
  simp[h10,h11,hn,hg]
  have w:=wrap64 (n:=(i:Int)+1) (by omega) (by omega)
  refine BrT.dec (fun c=>?_) (fun c=>?_)
  · have hi2:i<l.length:=by omega
    have hlen:=defs_len l
    have hfit:i*4+4≤l.length*4:=by omega
    have hN:=hok _ (List.getElem_mem hi2)
    have bad:=all_bad (p:=defB) hi2
    have good:=all_take (p:=defB) hi2 hp
    have hat:=defs_at l hi2
    generalize l[i]=d at hN bad good hat
    have hF:=p_defForm (gl:=gl) d hN
    obtain⟨nm,kind,flds,words⟩:=d
    simp only[Def.cells] at hat
    simp[h9,h11,hn,c,hlen,hfit,hat]
    repeat refine⟨DrawT.mk (by kernel_rfl),?_⟩
    refine CallT.p0 (hF) (by first | rfl | (simp;done)|(simp[hg];done)) (by first | rfl | (simp;done)|(simp;rfl)|(simp[c0,h0,h9,h10,h11,hn,hg,hmd,c,hi2,w,hlen,hfit,hat];done)) ?_
    simp[hn]
    refine BrT.mk (fun c1=>?_) (fun c1=>?_)
    case refine_2=>(have hz:checkB l=1:=(by rw[hz0,if_pos (by rw[bad c1];decide)]);simp[hn,c1,hz])
    simp[h0,h9,h10,h11,hn,w,c1]
    exact⟨⟨i+1,hi2,by omega,good c1⟩,upTo_lt h11 (by simp) hi2⟩
  · have hi3:i=l.length:=by omega
    subst hi3
    have hall:=allUp_all hp
    have hz1:checkB l=checkS l:=by rw[hz0,if_neg (by rw[hall];decide)]
    have hdall:∀ d∈l,defB d=true∧DefOk d:=fun d hm=>⟨List.all_eq_true.1 hall d hm,hok d hm⟩
    simp[h0,hn,c]
    repeat refine⟨DrawT.mk (by kernel_rfl),?_⟩
    refine CallT.p0 (p_schemaOf l (by omega)) (by first | rfl | (simp;done)|(simp[c0,h0,h9,h10,h11,hn,hg,hmd,c];done)) (by first | rfl | (simp;done)|(simp;rfl)|(simp[c0,h0,h9,h10,h11,hn,hg,hmd,c];done)) ?_
    simp[h0,hn,hg]
    unfold checkS at hz1
    refine BrT.dec (fun t1=>?_) (fun t1=>?_)
    case refine_2=>(rw[if_pos (fun e=>t1 (by omega))] at hz1;simp[hn,t1,hz1])
    have t1:(schL l).length=l.length:=by omega
    have hs:=schL_self t1
    rw[if_neg (fun e=>e t1)] at hz1
    rw[hs]
    simp[hn]
    repeat refine⟨DrawT.mk (by kernel_rfl),?_⟩
    refine CallT.p0 (p_allThere l (fun d hm=>(hdall d hm).2) (fun d hm=>(hdall d hm).1)) (by first | rfl | (simp;done)|(simp[c0,h0,h9,h10,h11,hn,hg,hmd,c,t1];done)) (by first | rfl | (simp;done)|(simp;rfl)|(simp[c0,h0,h9,h10,h11,hn,hg,hmd,c,t1];done)) ?_
    simp[hn]
    refine BrT.mk (fun t2=>?_) (fun t2=>?_)
    case refine_2=>(rw[if_pos (by rw[t2];decide)] at hz1;simp[hn,t2,hz1])
    rw[if_neg (fun e=>e t2)] at hz1
    simp[hn,t2]
    repeat refine⟨DrawT.mk (by kernel_rfl),?_⟩
    refine CallT.p0 (p_allPlaced l (fun d hm=>(hdall d hm).2) (fun d hm=>(hdall d hm).1)) (by first | rfl | (simp;done)|(simp[c0,h0,h9,h10,h11,hn,hg,hmd,c,t1,t2];done)) (by first | rfl | (simp;done)|(simp;rfl)|(simp[c0,h0,h9,h10,h11,hn,hg,hmd,c,t1,t2];done)) ?_
    simp[hn]
    refine BrT.mk (fun t3=>?_) (fun t3=>?_)
    case refine_2=>(rw[if_pos (by rw[t3];decide)] at hz1;simp[hn,t3,hz1])
    rw[if_neg (fun e=>e t3)] at hz1
    simp[hn,t3]
    repeat refine⟨DrawT.mk (by kernel_rfl),?_⟩
    refine CallT.p0 (p_hasRoots l) (by first | rfl | (simp;done)|(simp[c0,h0,h9,h10,h11,hn,hg,hmd,c,t1,t2,t3];done)) (by first | rfl | (simp;done)|(simp;rfl)|(simp[c0,h0,h9,h10,h11,hn,hg,hmd,c,t1,t2,t3];done)) ?_
    simp[hn]
    refine BrT.mk (fun t4=>?_) (fun t4=>?_)
    case refine_2=>(rw[if_pos (by rw[t4];decide)] at hz1;simp[hn,t4,hz1])
    rw[if_neg (fun e=>e t4)] at hz1
    simp[hn,t4]
    repeat refine⟨DrawT.mk (by kernel_rfl),?_⟩
    refine CallT.p0 (p_elsesFit l hdall) (by first | rfl | (simp;done)|(simp[c0,h0,h9,h10,h11,hn,hg,hmd,c,t1,t2,t3,t4];done)) (by first | rfl | (simp;done)|(simp;rfl)|(simp[c0,h0,h9,h10,h11,hn,hg,hmd,c,t1,t2,t3,t4];done)) ?_
    simp[hn]
    refine BrT.mk (fun t5=>?_) (fun t5=>?_)
    case refine_2=>(rw[if_pos (by rw[t5];decide)] at hz1;simp[hn,t5,hz1])
    rw[if_neg (fun e=>e t5)] at hz1
    simp[hn,t5]
    repeat refine⟨DrawT.mk (by kernel_rfl),?_⟩
    refine CallT.p0 (p_hasRound l hdall (by omega)) (by first | rfl | (simp;done)|(simp[c0,h0,h9,h10,h11,hn,hg,hmd,c,t1,t2,t3,t4,t5];done)) (by first | rfl | (simp;done)|(simp;rfl)|(simp[c0,h0,h9,h10,h11,hn,hg,hmd,c,t1,t2,t3,t4,t5];done)) ?_
    simp[hn]
    have hz2:checkB l=if roundB l=true then 7 else 0:=hz1
    have e:(l.any fun d=>memB d.name (needsG (nextN l) (l.length+1) d.name []))=roundB l:=rfl
    rw[e]
    refine BrT.mk (fun t6=>?_) (fun t6=>?_)
    case refine_2=>(rw[if_neg (by rw[t6];decide)] at hz2;simp[hn,t6,hz2])
    rw[if_pos t6] at hz2
    simp[hn,t6,hz2]
def ofN:Typ→List Typ | .mk _ l _=>l
def roundZ (l:List Def):Nat→ByteArray→Bool
  | 0,s=>decide (kindL l s=3)
  | m+1,s=>decide (kindL l s=3)&&(defL l s).flds.any fun f=>isReq f.ty&&(decide ((ofN f.ty).length=0)&&roundZ l m (tyName f.ty))
def fldRound (l:List Def) (m:Nat) (f:Fld):Bool:=isReq f.ty&&(decide ((ofN f.ty).length=0)&&roundZ l m (tyName f.ty))
set_option maxHeartbeats 4000000 in
theorem p_l2Round (l:List Def) (hl:l.length≤1000000) (hok:∀ d∈l,DefOk d):∀ (m:Nat) (s:ByteArray),m≤l.length+1→PCall Tryz.prog gl 59 [defsD l,dS s,dI ((l.length+1 - m:Nat):Int)] (dB (roundZ l m s)):=by
  intro m
  induction m with
  | zero =>
    intro s hm
    have hz:roundZ l 0 s=decide (kindL l s=3):=rfl
    refine PCall.by_ (md:=[]) Tryz.func59 rfl (by kernel_rfl) (n:=62) Tryz.ntmps59 (by simp) (by decide) rfl ?_
    simp[hz]
    repeat refine⟨DrawT.mk (by kernel_rfl),?_⟩
    refine CallT.p0 (p_l2At l s (by omega)) (by first | rfl | (simp;done)|(simp[hz];done)) (by first | rfl | (simp;done)|(simp;rfl)|(simp[hz];done)) ?_
    simp
    cases ha:atD l s with
    | none =>
      have hz1:atZ l s = -1:=by unfold atZ;rw[ha]
      have hk:kindL l s=0:=by rw[kindL,defL_none ha];rfl
      simp[hz1,hk]
    | some j =>
      have hz1:atZ l s=j:=by unfold atZ;rw[ha]
      have hj:=atD_lt ha
      have hlen:=defs_len l
      have hfit:j*4+4≤l.length*4:=by omega
      have hat:=defs_at l hj
      have hkk:kindL l s=(defL l s).kind:=rfl
      rw[defL_some ha] at hkk
      generalize l[j]=d at hat hkk
      obtain⟨dn,kind,fs,words⟩:=d
      simp only at hkk
      simp only[Def.cells] at hat
      have hat_1:=row_get hat 1 (by decide) rfl
      have hat_1'':=(List.getElem?_eq_some_iff.1 hat_1).2
      have hat_1':j*4+1<_:=Nat.lt_of_lt_of_le (by omega) hfit
      have hneg:¬ ((j:Int)<0):=by omega
      have hlt:((l.length:Int)<(l.length:Int)+1):=by omega
      simp[hat_1',hat_1'',hz1,hneg,hj,hlen,hkk]
      refine BrT.dec (fun k3=>?_) (fun k3=>?_)
      · simp[hlt,k3]
      · simp[k3]
  | succ m ih =>
    intro s hm
    obtain⟨dp,hdp,hdq⟩:∃ dp,l.length+1 - (m+1)=dp∧dp+m=l.length:=⟨l.length - m,by omega,by omega⟩
    rw[hdp]
    have ih:=fun s=>ih s (by omega)
    rw[show l.length+1 - m=dp+1 by omega] at ih
    have hz:roundZ l (m+1) s=(decide (kindL l s=3)&&(defL l s).flds.any (fldRound l m)):=rfl
    refine PCall.by_ (md:=[]) Tryz.func59 rfl (by kernel_rfl) (n:=62) Tryz.ntmps59 (by simp) (by decide) rfl ?_
    simp
    repeat refine⟨DrawT.mk (by kernel_rfl),?_⟩
    refine CallT.p0 (p_l2At l s (by omega)) (by first | rfl | (simp;done)|(simp;done)) (by first | rfl | (simp;done)|(simp;rfl)|(simp;done)) ?_
    simp
    cases ha:atD l s with
    | none =>
      have hz1:atZ l s = -1:=by unfold atZ;rw[ha]
      have hk:kindL l s=0:=by rw[kindL,defL_none ha];rfl
      simp[hz1,hk,hz]
    | some j =>
      have hz1:atZ l s=j:=by unfold atZ;rw[ha]
      have hj:=atD_lt ha
      have hlen:=defs_len l
      have hfit:j*4+4≤l.length*4:=by omega
      have hat:=defs_at l hj
      have hkk:kindL l s=(defL l s).kind:=rfl
      have hok1:=(hok _ (List.getElem_mem hj)).2.1.1
      rw[defL_some ha] at hkk
      rw[defL_some ha] at hz
      generalize l[j]=d at hat hkk hz hok1
      obtain⟨dn,kind,fs,words⟩:=d
      simp only at hkk hz hok1
      simp only[Def.cells] at hat
      have hat_1:=row_get hat 1 (by decide) rfl
      have hat_1'':=(List.getElem?_eq_some_iff.1 hat_1).2
      have hat_1':j*4+1<_:=Nat.lt_of_lt_of_le (by omega) hfit
      have hat_2:=row_get hat 2 (by decide) rfl
      have hat_2'':=(List.getElem?_eq_some_iff.1 hat_2).2
      have hat_2':j*4+2<_:=Nat.lt_of_lt_of_le (by omega) hfit
      have hneg:¬ ((j:Int)<0):=by omega
      have hlt:¬ (l.length<dp):=by omega
      have wd:IntKind.i64.wrap ((dp:Int)+1)=((dp+1:Nat):Int):=wrap64 (n:=(dp:Int)+1) (by omega) (by omega)
      simp[hat_1',hat_1'',hz1,hneg,hj,hlen]
      refine BrT.dec (fun k3=>?_) (fun k3=>?_)
      case refine_2=>simp[hkk,k3,hz]
      simp[hlt,k3]
      refine LoopT.round (fun E S=>∃ (i:Nat),(i≤fs.length)∧E 0=some (.d (defsD l))∧E 1=some (.d (dS s))∧E 2=some (.d (dI dp))∧E 7=some (.d (dI j))∧E 8=some (.d (dI i))∧(noUp (fldRound l m) fs i)) (upTo 8 fs.length) ⟨0,by simp;exact noUp_zero _ _⟩ ?_
      rintro E S hk ⟨i,hi,h0,h1,h2,h7,h8,hp⟩
      have hn:S.n=62:=by first | (simpa using hk.n)|(have hh:=hk.n;simp[hat_1,hat_1',hat_1'',hat_2,hat_2',hat_2'',hz1,hneg,hj,hlen,hkk,hlt,k3] at hh;exact hh)
      have hg:S.gl=gl:=by first | (simpa using hk.gl)|(have hh:=hk.gl;simp[hat_1,hat_1',hat_1'',hat_2,hat_2',hat_2'',hz1,hneg,hj,hlen,hkk,hlt,k3] at hh;exact hh)
      have hmd:S.md=[]:=by first | (simpa using hk.md)|(have hh:=hk.md;simp[hat_1,hat_1',hat_1'',hat_2,hat_2',hat_2'',hz1,hneg,hj,hlen,hkk,hlt,k3] at hh;exact hh)
      simp[hat_2',hat_2'',hj,hlen,h0,h7,h8,hn,hg]
      have w:=wrap64 (n:=(i:Int)+1) (by omega) (by omega)
      refine BrT.dec (fun c=>?_) (fun c=>?_)
      · have hi2:i<fs.length:=by omega
        have flen:=flds_len fs
        have ffit:i*5+5≤fs.length*5:=by omega
        have fat:=flds_at fs hi2
        have yes:=any_at (p:=fldRound l m) hi2
        have step:=noUp_next hi2 hp
        generalize fs[i]=f at fat yes step
        obtain⟨fn,args,fty⟩:=f
        cases fty with
        | mk ft flt fb =>
        simp only[Fld.cells,Typ.cells] at fat
        have hrd:fldRound l m ⟨fn,args, .mk ft flt fb⟩=(fb&&(decide (flt.length=0)&&roundZ l m ft)):=rfl
        rw[hrd] at yes step
        have ih:=ih ft
        have fat_2_3:=row_sub fat 2 3 (by decide)
        have fat_2_3':i*5+2+3≤_:=Nat.le_trans (by omega) ffit
        simp[hat_2',hat_2'',hj,hlen,h0,h7,h8,hn,c,fat_2_3,fat_2_3',flen]
        refine BrT.mk (fun c1=>?_) (fun c1=>?_)
        case refine_2=>(rw[c1] at step;simp[h0,h1,h2,h7,h8,hn,w,c1];exact⟨⟨i+1,hi2,by omega,step rfl⟩,upTo_lt h8 (by simp) hi2⟩)
        rw[c1,Bool.true_and] at yes step
        simp[hn,c1]
        refine BrT.dec (fun c2=>?_) (fun c2=>?_)
        case refine_2=>(rw[decide_eq_false (by simpa using c2)] at step;simp[h0,h1,h2,h7,h8,hn,w,c2];exact⟨⟨i+1,hi2,by omega,step rfl⟩,upTo_lt h8 (by simp) hi2⟩)
        rw[decide_eq_true (by simpa using c2),Bool.true_and] at yes step
        simp[h0,h2,hn,wd,c2]
        repeat refine⟨DrawT.mk (by kernel_rfl),?_⟩
        refine CallT.p0 (ih) (by first | rfl | (simp;done)|(simp[hg];done)) (by first | rfl | (simp;done)|(simp;rfl)|(simp[hat_1,hat_1',hat_1'',hat_2,hat_2',hat_2'',hz1,hneg,hj,hlen,hkk,hlt,k3,h0,h1,h2,h7,h8,hn,hg,hmd,c,fat_2_3,fat_2_3',hi2,w,flen,ffit,fat,wd,c1,c2];done)) ?_
        simp[hn]
        refine BrT.mk (fun c3=>?_) (fun c3=>?_)
        · have hq:=yes c3
          rw[hq] at hz
          simp[hkk,k3,hn,c3,hz]
        · rw[c3] at step
          simp[h0,h1,h2,h7,h8,hn,w,c3]
          exact⟨⟨i+1,hi2,by omega,step rfl⟩,upTo_lt h8 (by simp) hi2⟩
      · have hi3:i=fs.length:=by omega
        subst hi3
        rw[noUp_all hp] at hz
        simp[hkk,k3,hn,c,hz]
theorem else_tw {a:Arg} (h:argB a=true) (hh:a.has=true):TW a.els:=by
  unfold argB elseB at h
  rw[hh,if_pos rfl,Bool.and_eq_true] at h
  exact tw_of _ _ _ h.2
set_option maxHeartbeats 4000000 in
theorem p_l2Else (l:List Def) (hL:l.length≤1000000) (hd:∀ d∈l,defB d=true∧DefOk d):PCall Tryz.prog gl 58 [defsD l] (dB (l.all (defFits l))):=by
  obtain⟨z,hz⟩:∃ z,l.all (defFits l)=z:=⟨_,rfl⟩
  rw[hz]
  refine PCall.by_ (md:=[]) Tryz.func58 rfl (by kernel_rfl) (n:=58) Tryz.ntmps58 (by simp) (by decide) rfl ?_
  simp
  refine LoopT.round (fun E S=>∃ (i:Nat),(i≤l.length)∧E 0=some (.d (defsD l))∧E 3=some (.d (dI i))∧(allUp (defFits l) l i)) (upTo 3 l.length) ⟨0,by simp;exact allUp_zero _ _⟩ ?_
  rintro E S hk ⟨i,hi,h0,h3,hp⟩
  have hn:S.n=58:=by first | (simpa using hk.n)|(have hh:=hk.n;simp at hh;exact hh)
  have hg:S.gl=gl:=by first | (simpa using hk.gl)|(have hh:=hk.gl;simp at hh;exact hh)
  have hmd:S.md=[]:=by first | (simpa using hk.md)|(have hh:=hk.md;simp at hh;exact hh)
  simp[h0,h3,hn,hg]
  have w:=wrap64 (n:=(i:Int)+1) (by omega) (by omega)
  refine BrT.dec (fun c=>?_) (fun c=>?_)
  · have hi2:i<l.length:=by omega
    have hlen:=defs_len l
    have hfit:i*4+4≤l.length*4:=by omega
    have hat:=defs_at l hi2
    have bad:defFits l l[i]=false→z=false:=fun h=>by rw[← hz,all_bad hi2 h]
    have good:=all_take (p:=defFits l) hi2 hp
    obtain⟨hdb,hdo⟩:=hd _ (List.getElem_mem hi2)
    have hfo:=fld_of hdb
    generalize l[i]=d at hat bad good hdb hdo hfo
    have hdf:defFits l d=d.flds.all (fldFits l):=rfl
    obtain⟨dn,kind,fs,words⟩:=d
    obtain⟨hfl,hfk⟩:=hdo.2.1
    simp only at hdf hfo hfl hfk
    simp only[Def.cells] at hat
    have hat_2:=row_get hat 2 (by decide) rfl
    have hat_2'':=(List.getElem?_eq_some_iff.1 hat_2).2
    have hat_2':i*4+2<_:=Nat.lt_of_lt_of_le (by omega) hfit
    simp[hn,c]
    have o3:=h3
    refine LoopT.round (fun E S=>∃ (k:Nat),(k≤fs.length)∧E 0=some (.d (defsD l))∧E 3=some (.d (dI i))∧E 4=some (.d (dI k))∧(allUp (fldFits l) fs k)) (upTo 4 fs.length) ⟨0,by simp[h0,h3];exact allUp_zero _ _⟩ ?_
    rintro E S hk ⟨k,hk2,h0,h3,h4,hp2⟩
    have hn:S.n=58:=by first | (simpa using hk.n)|(have hh:=hk.n;simp[hn] at hh;exact hh)
    have hg:S.gl=gl:=by first | (simpa using hk.gl)|(have hh:=hk.gl;simp[hg] at hh;exact hh)
    have hmd:S.md=[]:=by first | (simpa using hk.md)|(have hh:=hk.md;simp[hmd] at hh;exact hh)
    simp[c,hat_2',hat_2'',hlen,h0,h3,h4,hn,hg]
    have w2:=wrap64 (n:=(k:Int)+1) (by omega) (by omega)
    refine BrT.dec (fun c2=>?_) (fun c2=>?_)
    · have hk3:k<fs.length:=by omega
      have flen:=flds_len fs
      have ffit:k*5+5≤fs.length*5:=by omega
      have fat:=flds_at fs hk3
      have bad2:fldFits l fs[k]=false→z=false:=fun h=>bad (by rw[hdf,all_bad hk3 h])
      have good2:=all_take (p:=fldFits l) hk3 hp2
      have hfo:=hfo _ (List.getElem_mem hk3)
      have hfk:=hfk _ (List.getElem_mem hk3)
      generalize fs[k]=f at fat bad2 good2 hfo hfk
      have hff:fldFits l f=f.args.all (argFits l):=rfl
      obtain⟨fn,args,fty⟩:=f
      cases fty with
      | mk ft flt fb =>
      obtain⟨hal,hak⟩:=hfk.2.1
      simp only at hff hfo hal hak
      simp only[Fld.cells,Typ.cells] at fat
      have fat_1:=row_get fat 1 (by decide) rfl
      have fat_1'':=(List.getElem?_eq_some_iff.1 fat_1).2
      have fat_1':k*5+1<_:=Nat.lt_of_lt_of_le (by omega) ffit
      simp[c,hat_2',hat_2'',hlen,h0,h3,h4,hn,c2,fat_1',fat_1'',flen]
      have o4:=h4
      refine LoopT.round (fun E S=>∃ (q:Nat),(q≤args.length)∧E 0=some (.d (defsD l))∧E 3=some (.d (dI i))∧E 4=some (.d (dI k))∧E 5=some (.d (argsD args))∧E 6=some (.d (dI q))∧(allUp (argFits l) args q)) (upTo 6 args.length) ⟨0,by simp[h0,h3,h4];exact allUp_zero _ _⟩ ?_
      rintro E S hk ⟨q,hq2,h0,h3,h4,h5,h6,hp3⟩
      have hn:S.n=58:=by first | (simpa using hk.n)|(have hh:=hk.n;simp[hn] at hh;exact hh)
      have hg:S.gl=gl:=by first | (simpa using hk.gl)|(have hh:=hk.gl;simp[hg] at hh;exact hh)
      have hmd:S.md=[]:=by first | (simpa using hk.md)|(have hh:=hk.md;simp[hmd] at hh;exact hh)
      simp[h5,h6,hn,hg]
      have w3:=wrap64 (n:=(q:Int)+1) (by omega) (by omega)
      refine BrT.dec (fun c3=>?_) (fun c3=>?_)
      · have hq3:q<args.length:=by omega
        have alen:=args_len args
        have afit:q*10+10≤args.length*10:=by omega
        have aat:=args_at args hq3
        have bad3:argFits l args[q]=false→z=false:=fun h=>bad2 (by rw[hff,all_bad hq3 h])
        have good3:=all_take (p:=argFits l) hq3 hp3
        have haB:=hfo.2 _ (List.getElem_mem hq3)
        have haO:=hak _ (List.getElem_mem hq3)
        generalize args[q]=a at aat bad3 good3 haB haO
        have hF:=fun hh=>p_l2Fits (gl:=gl) l hL hd a.els a.ty 3 (typ_of haB) haO.2.2 (else_tw haB hh)
        have hafe:argFits l a = !(a.has && !fitsB l a.ty a.els):=rfl
        obtain⟨an,aty,ah,ae⟩:=a
        cases aty with
        | mk at_ alt ab =>
        cases ae with
        | mk ek en et el ens =>
        simp only at hF hafe
        simp only[Arg.cells,Typ.cells,Val.cells,List.cons_append,List.nil_append] at aat
        have aat_1_3:=row_sub aat 1 3 (by decide)
        have aat_1_3':q*10+1+3≤_:=Nat.le_trans (by omega) afit
        have aat_4:=row_get aat 4 (by decide) rfl
        have aat_4'':=(List.getElem?_eq_some_iff.1 aat_4).2
        have aat_4':q*10+4<_:=Nat.lt_of_lt_of_le (by omega) afit
        have aat_5_5:=row_sub aat 5 5 (by decide)
        have aat_5_5':q*10+5+5≤_:=Nat.le_trans (by omega) afit
        simp[h5,h6,hn,c3,aat_4',aat_4'',alen]
        refine⟨DrawT.mk (by kernel_rfl),?_⟩
        refine BrT.mk (fun ca=>?_) (fun ca=>?_)
        · simp[h0,h5,h6,hn,c3,aat_1_3,aat_1_3',aat_5_5,aat_5_5',alen,ca]
          repeat refine⟨DrawT.mk (by kernel_rfl),?_⟩
          refine CallT.p0 (hF ca) (by first | rfl | (simp;done)|(simp[hg];done)) (by first | rfl | (simp;done)|(simp;rfl)|(simp[h0,h3,hn,hg,hmd,c,hat_2,hat_2',hat_2'',hi2,w,hlen,hfit,h0,h3,h4,hn,hg,hmd,c2,fat_1,fat_1',fat_1'',hk3,w2,flen,ffit,h0,h3,h4,h5,h6,hn,hg,hmd,c3,aat_1_3,aat_1_3',aat_4,aat_4',aat_4'',aat_5_5,aat_5_5',hq3,w3,alen,afit,ca];done)) ?_
          simp[hn]
          refine BrT.mk (fun cf=>?_) (fun cf=>?_)
          case refine_2=>(have hq:=bad3 (by rw[hafe,ca,cf];rfl);simp[hn,cf,hq])
          simp[h0,h3,h4,h5,h6,hn,w3,cf]
          exact⟨⟨q+1,hq3,by omega,good3 (by rw[hafe,ca,cf];rfl)⟩,upTo_lt h6 (by simp) hq3⟩
        · simp[h0,h3,h4,h5,h6,hn,w3,ca]
          exact⟨⟨q+1,hq3,by omega,good3 (by rw[hafe,ca];rfl)⟩,upTo_lt h6 (by simp) hq3⟩
      · have hq4:q=args.length:=by omega
        subst hq4
        have g:=good2 (by rw[hff];exact allUp_all hp3)
        simp[w2,h0,h3,h4,hn,c3]
        exact⟨⟨k+1,hk3,by omega,g⟩,upTo_lt o4 (by simp) hk3⟩
    · have hk4:k=fs.length:=by omega
      subst hk4
      have g:=good (by rw[hdf];exact allUp_all hp2)
      simp[w,h0,h3,hn,c2]
      exact⟨⟨i+1,hi2,by omega,g⟩,upTo_lt o3 (by simp) hi2⟩
  · have hi3:i=l.length:=by omega
    subst hi3
    rw[allUp_all hp] at hz
    simp[hn,c, ← hz]
def cz (b:Bool):Int:=if b=true then 4 else 0
def wordsOf (d:Def):List ByteArray:=if d.kind=2 then [] else d.words
def missW (l:List Def) (w:ByteArray):Bool:=decide (kindZ l w<0)
def badW (l:List Def) (w:ByteArray):Bool:=!decide (kindZ l w=1)
def missA (l:List Def) (a:Arg):Bool:=decide (kindZ l (baseT a.ty)<0)
def badA (l:List Def) (a:Arg):Bool:=!goesB l (baseT a.ty) true
def missF (l:List Def) (f:Fld):Bool:=decide (kindZ l (baseT f.ty)<0) || f.args.any (missA l)
def badF (l:List Def) (inn:Bool) (f:Fld):Bool:=!goesB l (baseT f.ty) inn || f.args.any (badA l)
def missD (l:List Def) (d:Def):Bool:=(wordsOf d).any (missW l) || d.flds.any (missF l)
def badD (l:List Def) (d:Def):Bool:=(wordsOf d).any (badW l) || d.flds.any (badF l (decide (d.kind=3)))
def namesZ (l:List Def):Int:=if l.any (missD l)=true then 3 else cz (l.any (badD l))
def anyTo {α:Type} (p:α→Bool) (l:List α) (i:Nat):Bool:=(l.take i).any p
@[simp] theorem anyTo_zero {α:Type} (p:α→Bool) (l:List α):anyTo p l 0=false:=rfl
theorem anyTo_next {α:Type}{p:α→Bool}{l:List α}{i:Nat} (hi:i<l.length):anyTo p l (i+1)=(anyTo p l i || p l[i]):=any_take hi
theorem anyTo_all {α:Type} (p:α→Bool) (l:List α):anyTo p l l.length=l.any p:=by unfold anyTo;rw[List.take_length]
theorem words_len {d:Def} (h:defB d=true):d.words.length≤8:=by
  unfold defB at h
  rw[Bool.and_eq_true] at h
  have h:=h.2
  split at h
  · rw[Bool.and_eq_true] at h
    have:=of_decide_eq_true h.1
    omega
  · split at h
    · simp only[Bool.and_eq_true,decide_eq_true_eq] at h
      omega
    · cases h
set_option maxHeartbeats 8000000 in
theorem p_l2Names (l:List Def) (hL:l.length≤1000000) (hd:∀ d∈l,defB d=true∧DefOk d):PCall Tryz.prog gl 55 [defsD l] (dI (namesZ l)):=by
  obtain⟨z,hz⟩:∃ z,namesZ l=z:=⟨_,rfl⟩
  rw[hz]
  have miss:l.any (missD l)=true→z=3:=fun h=>by rw[← hz,namesZ,if_pos h]
  have fine:l.any (missD l)=false→z=cz (l.any (badD l)):=fun h=>by rw[← hz,namesZ,if_neg (by rw[h];decide)]
  have hl0:l.length≤4611686018427387904:=by omega
  refine PCall.by_ (md:=[]) Tryz.func55 rfl (by kernel_rfl) (n:=109) Tryz.ntmps55 (by simp) (by decide) rfl ?_
  simp
  refine LoopT.round (fun E S=>∃ (i:Nat),(i≤l.length)∧E 0=some (.d (defsD l))∧E 3=some (.d (dI (cz (anyTo (badD l) l i))))∧E 4=some (.d (dI i))∧(noUp (missD l) l i)) (upTo 4 l.length) ⟨0,by simp;exact⟨rfl,noUp_zero _ _⟩⟩ ?_
  rintro E S hk ⟨i,hi,h0,h3,h4,hp⟩
  have hn:S.n=109:=by first | (simpa using hk.n)|(have hh:=hk.n;simp at hh;exact hh)
  have hg:S.gl=gl:=by first | (simpa using hk.gl)|(have hh:=hk.gl;simp at hh;exact hh)
  have hmd:S.md=[]:=by first | (simpa using hk.md)|(have hh:=hk.md;simp at hh;exact hh)
  simp[h0,h4,hn,hg]
  have w:=wrap64 (n:=(i:Int)+1) (by omega) (by omega)
  refine BrT.dec (fun c=>?_) (fun c=>?_)
  · have hi2:i<l.length:=by omega
    have hlen:=defs_len l
    have hfit:i*4+4≤l.length*4:=by omega
    have hat:=defs_at l hi2
    have bad:missD l l[i]=true→z=3:=fun h=>miss (any_at hi2 h)
    have good:=noUp_next hi2 hp
    have code:=anyTo_next (p:=badD l) hi2
    obtain⟨hdb,hdo⟩:=hd _ (List.getElem_mem hi2)
    have hfo:=fld_of hdb
    generalize l[i]=d at hat bad good code hdb hdo hfo
    generalize anyTo (badD l) l i=c0 at code h3
    have hmis:missD l d=((wordsOf d).any (missW l) || d.flds.any (missF l)):=rfl
    have hbdd:badD l d=((wordsOf d).any (badW l) || d.flds.any (badF l (decide (d.kind=3)))):=rfl
    have hww:wordsOf d=if d.kind=2 then [] else d.words:=rfl
    obtain⟨dn,kind,fs,words⟩:=d
    obtain⟨hfl,hfk⟩:=hdo.2.1
    have hwl:=words_len hdb
    simp only at hmis hbdd hww hfo hfl hfk hwl
    generalize wordsOf _=ws at hmis hbdd hww
    simp only[Def.cells] at hat
    have hat_1:=row_get hat 1 (by decide) rfl
    have hat_1'':=(List.getElem?_eq_some_iff.1 hat_1).2
    have hat_1':i*4+1<_:=Nat.lt_of_lt_of_le (by omega) hfit
    have hat_2:=row_get hat 2 (by decide) rfl
    have hat_2'':=(List.getElem?_eq_some_iff.1 hat_2).2
    have hat_2':i*4+2<_:=Nat.lt_of_lt_of_le (by omega) hfit
    have hat_3:=row_get hat 3 (by decide) rfl
    have hat_3'':=(List.getElem?_eq_some_iff.1 hat_3).2
    have hat_3':i*4+3<_:=Nat.lt_of_lt_of_le (by omega) hfit
    by_cases hw0:words=[]
    case' pos =>
      subst hw0
      simp[h0,h4,hn,hmd,c,hat_1',hat_1'',hat_3',hat_3'',hlen]
    case' neg =>
      have hw1:0<words.length:=List.length_pos_iff.2 hw0
      simp[h0,h4,hn,hmd,c,hat_1',hat_1'',hat_3',hat_3'',hlen,hw0]
      refine⟨by unfold appBound;omega,?_⟩
    all_goals
      refine BrT.dec (fun k2=>?_) (fun k2=>?_)
    all_goals
      simp[hn,hmd]
      refine LoopT.asD 5 (namesD ws) (by rw[hww];first | (rw[if_pos k2];rfl)|(rw[if_neg k2];rfl)) ?_
      have o4:=h4
      have wl:ws.length≤4611686018427387903:=by
        rw[hww];split
        · simp
        · first | omega | simp
      refine LoopT.round (fun E S=>∃ (k:Nat),(k≤ws.length)∧E 0=some (.d (defsD l))∧E 3=some (.d (dI (cz (c0 || anyTo (badW l) ws k))))∧E 4=some (.d (dI i))∧E 5=some (.d (namesD ws))∧E 6=some (.d (dI k))∧(noUp (missW l) ws k)) (upTo 6 ws.length) ⟨0,by simp[h0,h3,h4];exact noUp_zero _ _⟩ ?_
      rintro E S hk ⟨k,hkl,h0,h3,h4,h5,h6,hp2⟩
      have hn:S.n=109:=by first | (simpa using hk.n)|(have hh:=hk.n;simp[hn] at hh;exact hh)
      have hg:S.gl=gl:=by first | (simpa using hk.gl)|(have hh:=hk.gl;simp[hg] at hh;exact hh)
      have hmd:S.md=[]:=by first | (simpa using hk.md)|(have hh:=hk.md;simp[hmd] at hh;exact hh)
      simp[h5,h6,hn,hg]
      have w2:=wrap64 (n:=(k:Int)+1) (by omega) (by omega)
      refine BrT.dec (fun c2=>?_) (fun c2=>?_)
      · have hk3:k<ws.length:=by omega
        have mis:=any_at (p:=missW l) hk3
        have gd:=noUp_next hk3 hp2
        have cd:=anyTo_next (p:=badW l) hk3
        have hK:=p_l2Kind (gl:=gl) l ws[k] hl0
        have hmw:missW l ws[k]=decide (kindZ l ws[k]<0):=rfl
        have hbw:badW l ws[k] = !decide (kindZ l ws[k]=1):=rfl
        generalize kindZ l ws[k]=zk at hK hmw hbw
        simp[h0,h5,h6,hn,c2]
        repeat refine⟨DrawT.mk (by kernel_rfl),?_⟩
        refine CallT.p0 (hK) (by first | rfl | (simp;done)|(simp[hg];done)) (by first | rfl | (simp;done)|(simp;rfl)|(simp[h0,h3,h4,hn,hg,hmd,c,hat_1,hat_1',hat_1'',hat_2,hat_2',hat_2'',hat_3,hat_3',hat_3'',hi2,w,hlen,hfit,h0,h3,h4,h5,h6,hn,hg,hmd,c2,hk3,w2];done)) ?_
        simp[hn]
        refine BrT.dec (fun m1=>?_) (fun m1=>?_)
        case refine_1=>(have hq:=bad (by rw[hmis,mis (by rw[hmw];exact decide_eq_true m1)];rfl);simp[hn,m1,hq])
        have gd:=gd (by rw[hmw];exact decide_eq_false m1)
        simp[h0,h5,h6,hn,c2,m1]
        repeat refine⟨DrawT.mk (by kernel_rfl),?_⟩
        refine CallT.p0 (hK) (by first | rfl | (simp;done)|(simp[hg];done)) (by first | rfl | (simp;done)|(simp;rfl)|(simp[h0,h3,h4,hn,hg,hmd,c,hat_1,hat_1',hat_1'',hat_2,hat_2',hat_2'',hat_3,hat_3',hat_3'',hi2,w,hlen,hfit,h0,h3,h4,h5,h6,hn,hg,hmd,c2,hk3,w2,m1];done)) ?_
        simp[hn]
        refine BrT.dec (fun m2=>?_) (fun m2=>?_)
        · rw[hbw,decide_eq_true m2,Bool.not_true,Bool.or_false] at cd
          rw[← cd] at h3
          simp[h0,h3,h4,h5,h6,hn,w2,m2]
          exact⟨⟨k+1,hk3,rfl,by omega,gd⟩,upTo_lt h6 (by simp) hk3⟩
        · rw[hbw,decide_eq_false m2,Bool.not_false,Bool.or_true] at cd
          simp[h0,h4,h5,h6,hn,w2,m2]
          exact⟨⟨k+1,hk3,by rw[cd];simp[cz],by omega,gd⟩,upTo_lt h6 (by simp) hk3⟩
      · have hk4:k=ws.length:=by omega
        subst hk4
        have hm1:=noUp_all hp2
        rw[anyTo_all] at h3
        rw[hm1,Bool.false_or] at hmis
        generalize ws.any (badW l)=wb at h3 hbdd
        obtain⟨c1,hc1⟩:∃ c1,(c0 || wb)=c1:=⟨_,rfl⟩
        rw[hc1] at h3
        simp[hn,c2]
        refine LoopT.round (fun E S=>∃ (k:Nat),(k≤fs.length)∧E 0=some (.d (defsD l))∧E 3=some (.d (dI (cz (c1 || anyTo (badF l (decide (kind=3))) fs k))))∧E 4=some (.d (dI i))∧E 7=some (.d (dI k))∧(noUp (missF l) fs k)) (upTo 7 fs.length) ⟨0,by simp[h0,h3,h4];exact noUp_zero _ _⟩ ?_
        rintro E S hk ⟨k,hkl,h0,h3,h4,h7,hp3⟩
        have hn:S.n=109:=by first | (simpa using hk.n)|(have hh:=hk.n;simp[hn] at hh;exact hh)
        have hg:S.gl=gl:=by first | (simpa using hk.gl)|(have hh:=hk.gl;simp[hg] at hh;exact hh)
        have hmd:S.md=[]:=by first | (simpa using hk.md)|(have hh:=hk.md;simp[hmd] at hh;exact hh)
        simp[c,hat_2',hat_2'',hlen,h0,h4,h7,hn,hg]
        have w3:=wrap64 (n:=(k:Int)+1) (by omega) (by omega)
        refine BrT.dec (fun c3=>?_) (fun c3=>?_)
        · have hk3:k<fs.length:=by omega
          have flen:=flds_len fs
          have ffit:k*5+5≤fs.length*5:=by omega
          have fat:=flds_at fs hk3
          have mis:=any_at (p:=missF l) hk3
          have gd:=noUp_next hk3 hp3
          have cd:=anyTo_next (p:=badF l (decide (kind=3))) hk3
          have hfo:=hfo _ (List.getElem_mem hk3)
          have hfk:=hfk _ (List.getElem_mem hk3)
          generalize fs[k]=f at fat mis gd cd hfo hfk
          have hmf:missF l f=(decide (kindZ l (baseT f.ty)<0) || f.args.any (missA l)):=rfl
          have hbf:badF l (decide (kind=3)) f=(!goesB l (baseT f.ty) (decide (kind=3)) || f.args.any (badA l)):=rfl
          have hB:=p_l2Base (gl:=gl) f.ty 3 hfo.1
          have hK:=p_l2Kind (gl:=gl) l (baseT f.ty) hl0
          have hG:=p_l2Goes (gl:=gl) l (baseT f.ty) (decide (kind=3)) hl0
          generalize baseT f.ty=bt at hmf hbf hB hK hG
          generalize kindZ l bt=zk at hmf hK
          generalize goesB l bt (decide (kind=3))=zg at hbf hG
          generalize anyTo (badF l (decide (kind=3))) fs k=cb2 at h3 cd
          obtain⟨fn,args,fty⟩:=f
          cases fty with
          | mk ft flt fb =>
          obtain⟨hal,hak⟩:=hfk.2.1
          simp only at hmf hbf hfo hal hak
          simp only[Fld.cells,Typ.cells] at fat
          simp[c,hat_2',hat_2'',hlen,h0,h4,h7,hn,c3,flen,ffit,fat]
          repeat refine⟨DrawT.mk (by kernel_rfl),?_⟩
          refine CallT.p0 (hB) (by first | rfl | (simp;done)|(simp[hg];done)) (by first | rfl | (simp;done)|(simp;rfl)|(simp[h0,h3,h4,hn,hg,hmd,c,hat_1,hat_1',hat_1'',hat_2,hat_2',hat_2'',hat_3,hat_3',hat_3'',hi2,w,hlen,hfit,h0,h3,h4,h5,h6,hn,hg,hmd,c2,h0,h3,h4,h7,hn,hg,hmd,c3,hk3,w3,flen,ffit,fat];done)) ?_
          simp[h0,hn]
          repeat refine⟨DrawT.mk (by kernel_rfl),?_⟩
          refine CallT.p0 (hK) (by first | rfl | (simp;done)|(simp[hg];done)) (by first | rfl | (simp;done)|(simp;rfl)|(simp[h0,h3,h4,hn,hg,hmd,c,hat_1,hat_1',hat_1'',hat_2,hat_2',hat_2'',hat_3,hat_3',hat_3'',hi2,w,hlen,hfit,h0,h3,h4,h5,h6,hn,hg,hmd,c2,h0,h3,h4,h7,hn,hg,hmd,c3,hk3,w3,flen,ffit,fat];done)) ?_
          simp[hn]
          refine BrT.dec (fun m1=>?_) (fun m1=>?_)
          case refine_1=>(have hq:=bad (by rw[hmis,mis (by rw[hmf,decide_eq_true m1];rfl)]);simp[hn,m1,hq])
          rw[decide_eq_false m1,Bool.false_or] at hmf
          simp[c,hat_1',hat_1'',hlen,h0,h4,hn,m1]
          repeat refine⟨DrawT.mk (by kernel_rfl),?_⟩
          refine CallT.p0 (hG) (by first | rfl | (simp;done)|(simp[hg];done)) (by first | rfl | (simp;done)|(simp;rfl)|(simp[h0,h3,h4,hn,hg,hmd,c,hat_1,hat_1',hat_1'',hat_2,hat_2',hat_2'',hat_3,hat_3',hat_3'',hi2,w,hlen,hfit,h0,h3,h4,h5,h6,hn,hg,hmd,c2,h0,h3,h4,h7,hn,hg,hmd,c3,hk3,w3,flen,ffit,fat,m1];done)) ?_
          simp[hn]
          have o7:=h7
          refine BrT.mk (fun mg=>?_) (fun mg=>?_)
          all_goals
            simp[hn,mg]
            refine LoopT.round (fun E S=>∃ (q:Nat) (b:Nat),(q≤args.length)∧E 0=some (.d (defsD l))∧E 3=some (.d (dI (cz ((c1 || (cb2 || !zg)) || anyTo (badA l) args q))))∧E 4=some (.d (dI i))∧E 7=some (.d (dI k))∧E 8=some (.op b 0)∧E 10=some (.d (dI q))∧S.B b=some ([.d (dS fn), .d (argsD args), .d (dS ft), .d (typsD flt), .d (dB fb)])∧(noUp (missA l) args q)) (upTo 10 args.length) ⟨0,S.nx+8+8,by simp[h0,h3,h4,h7,mg,cz];exact noUp_zero _ _⟩ ?_
            rintro E S hk ⟨q,b,hql,h0,h3,h4,h7,h8,h10,hBb,hp4⟩
            have hn:S.n=109:=by first | (simpa using hk.n)|(have hh:=hk.n;simp[hn] at hh;exact hh)
            have hg:S.gl=gl:=by first | (simpa using hk.gl)|(have hh:=hk.gl;simp[hg] at hh;exact hh)
            have hmd:S.md=[]:=by first | (simpa using hk.md)|(have hh:=hk.md;simp[hmd] at hh;exact hh)
            simp[mg,h8,h10,hBb,hn,hg]
            have w4:=wrap64 (n:=(q:Int)+1) (by omega) (by omega)
            refine BrT.dec (fun c4=>?_) (fun c4=>?_)
            · have hq3:q<args.length:=by omega
              have alen:=args_len args
              have afit:q*10+10≤args.length*10:=by omega
              have aat:=args_at args hq3
              have mis2:=any_at (p:=missA l) hq3
              have gd2:=noUp_next hq3 hp4
              have cd2:=anyTo_next (p:=badA l) hq3
              have haB:=hfo.2 _ (List.getElem_mem hq3)
              generalize args[q]=a at aat mis2 gd2 cd2 haB
              have hma:missA l a=decide (kindZ l (baseT a.ty)<0):=rfl
              have hba:badA l a = !goesB l (baseT a.ty) true:=rfl
              have hB2:=p_l2Base (gl:=gl) a.ty 3 (typ_of haB)
              have hK2:=p_l2Kind (gl:=gl) l (baseT a.ty) hl0
              have hG2:=p_l2Goes (gl:=gl) l (baseT a.ty) true hl0
              generalize baseT a.ty=bt2 at hma hba hB2 hK2 hG2
              generalize kindZ l bt2=zk2 at hma hK2
              generalize goesB l bt2 true=zg2 at hba hG2
              obtain⟨an,aty,ah,ae⟩:=a
              cases aty with
              | mk at_ alt ab =>
              cases ae with
              | mk ek en et el ens =>
              simp only[Arg.cells,Typ.cells,Val.cells,List.cons_append,List.nil_append] at aat
              have aat_1_3:=row_sub aat 1 3 (by decide)
              have aat_1_3':q*10+1+3≤_:=Nat.le_trans (by omega) afit
              simp[h8,h10,hBb,hn,c4,aat_1_3,aat_1_3',alen]
              repeat refine⟨DrawT.mk (by kernel_rfl),?_⟩
              refine CallT.p0 (hB2) (by first | rfl | (simp;done)|(simp[hg];done)) (by first | rfl | (simp;done)|(simp;rfl)|(simp[h0,h3,h4,hn,hg,hmd,c,hat_1,hat_1',hat_1'',hat_2,hat_2',hat_2'',hat_3,hat_3',hat_3'',hi2,w,hlen,hfit,h0,h3,h4,h5,h6,hn,hg,hmd,c2,h0,h3,h4,h7,hn,hg,hmd,c3,hk3,w3,flen,ffit,fat,m1,mg,h0,h3,h4,h7,h8,h10,hBb,hn,hg,hmd,c4,aat_1_3,aat_1_3',hq3,w4,alen,afit];done)) ?_
              simp[h0,hn]
              repeat refine⟨DrawT.mk (by kernel_rfl),?_⟩
              refine CallT.p0 (hK2) (by first | rfl | (simp;done)|(simp[hg];done)) (by first | rfl | (simp;done)|(simp;rfl)|(simp[h0,h3,h4,hn,hg,hmd,c,hat_1,hat_1',hat_1'',hat_2,hat_2',hat_2'',hat_3,hat_3',hat_3'',hi2,w,hlen,hfit,h0,h3,h4,h5,h6,hn,hg,hmd,c2,h0,h3,h4,h7,hn,hg,hmd,c3,hk3,w3,flen,ffit,fat,m1,mg,h0,h3,h4,h7,h8,h10,hBb,hn,hg,hmd,c4,aat_1_3,aat_1_3',hq3,w4,alen,afit];done)) ?_
              simp[hn]
              refine BrT.dec (fun m3=>?_) (fun m3=>?_)
              case refine_1=>(have hq:=bad (by rw[hmis,mis (by rw[hmf,mis2 (by rw[hma];exact decide_eq_true m3)])]);simp[hn,m3,hq])
              have gd2:=gd2 (by rw[hma];exact decide_eq_false m3)
              simp[h0,hn,m3]
              repeat refine⟨DrawT.mk (by kernel_rfl),?_⟩
              refine CallT.p0 (hG2) (by first | rfl | (simp;done)|(simp[hg];done)) (by first | rfl | (simp;done)|(simp;rfl)|(simp[h0,h3,h4,hn,hg,hmd,c,hat_1,hat_1',hat_1'',hat_2,hat_2',hat_2'',hat_3,hat_3',hat_3'',hi2,w,hlen,hfit,h0,h3,h4,h5,h6,hn,hg,hmd,c2,h0,h3,h4,h7,hn,hg,hmd,c3,hk3,w3,flen,ffit,fat,m1,mg,h0,h3,h4,h7,h8,h10,hBb,hn,hg,hmd,c4,aat_1_3,aat_1_3',hq3,w4,alen,afit,m3];done)) ?_
              simp[hn]
              refine BrT.mk (fun m4=>?_) (fun m4=>?_)
              · rw[hba,m4,Bool.not_true,Bool.or_false] at cd2
                rw[← cd2] at h3
                simp[mg,h0,h3,h4,h7,h8,h10,hBb,hn,w4,m4]
                first | exact⟨⟨q+1,hq3,rfl,by omega,gd2⟩,upTo_lt h10 (by simp) hq3⟩ | exact⟨⟨q+1,hq3,by omega,gd2⟩,upTo_lt h10 (by simp) hq3⟩
              · rw[hba,m4,Bool.not_false,Bool.or_true] at cd2
                simp[h0,h4,h7,h8,h10,hBb,hn,w4,m4]
                exact⟨⟨q+1,hq3,by first | rfl | (rw[cd2];simp[cz]),by omega,gd2⟩,upTo_lt h10 (by simp) hq3⟩
            · have hq4:q=args.length:=by omega
              subst hq4
              rw[noUp_all hp4] at hmf
              rw[anyTo_all] at h3
              have gd:=gd hmf
              have e:(c1 || (cb2 || !zg) || args.any (badA l))=(c1 || anyTo (badF l (decide (kind=3))) fs (k+1)):=by
                rw[cd,hbf]
                cases c1<;>cases cb2<;>cases zg<;>rfl
              rw[e] at h3
              simp[w3,h0,h3,h4,h7,hn,c4]
              exact⟨⟨k+1,hk3,rfl,by omega,gd⟩,upTo_lt o7 (by simp) hk3⟩
        · have hk4:k=fs.length:=by omega
          subst hk4
          have hm2:=noUp_all hp3
          rw[anyTo_all] at h3
          rw[hm2] at hmis
          have gd:=good hmis
          have e:(c1 || fs.any (badF l (decide (kind=3))))=anyTo (badD l) l (i+1):=by
            rw[code,hbdd, ← hc1,Bool.or_assoc]
          rw[e] at h3
          simp[w,h0,h3,h4,hn,c3]
          exact⟨⟨i+1,hi2,rfl,by omega,gd⟩,upTo_lt o4 (by simp) hi2⟩
  · have hi3:i=l.length:=by omega
    subst hi3
    have hq:=fine (noUp_all hp)
    rw[anyTo_all] at h3
    simp[h3,hn,c,hq]
def rootBad (l:List Def):Bool:=!decide (kindZ l queryS=1) || (decide (0≤atZ l mutS) && !decide (kindZ l mutS=1))
def roundP (l:List Def):Bool:=l.any fun d=>roundZ l (l.length+1) d.name
def checkQ (l:List Def):Int :=
  if 10<l.length then 1 else if ¬ onceB (defNames l)=true then 2 else if ¬ namesZ l=0 then namesZ l else if rootBad l=true then 5 else if ¬ (l.all (defFits l))=true then 6 else if roundP l=true then 7 else 0
def checkP (l:List Def):Int:=if ¬ (l.all defB)=true then 1 else checkQ l
set_option maxHeartbeats 8000000 in
theorem p_spSchemaCheck (l:List Def) (hl:l.length≤1048576) (hsm:∀ d∈l,DefSm d):PCall Tryz.prog gl 15 [defsD l] (dI (checkP l)):=by
  obtain⟨z,hz⟩:∃ z,checkP l=z:=⟨_,rfl⟩
  rw[hz]
  unfold checkP at hz
  refine PCall.by_ (md:=[]) Tryz.func15 rfl (by kernel_rfl) (n:=72) Tryz.ntmps15 (by simp) (by decide) rfl ?_
  simp
  refine LoopT.round (fun E S=>∃ (i:Nat) (X:SV),(i≤l.length)∧E 0=some (.d (defsD l))∧E 3=some (X)∧E 4=some (.d (dI i))∧(AccD 1 S X (accN Def.name l i) i)∧(allUp defB l i)) (upTo 4 l.length) ⟨0, .fl [] 0,by simp;exact⟨AccD.nil,allUp_zero _ _⟩⟩ ?_
  rintro E S hk ⟨i,X,hi,h0,h3,h4,hA,hp⟩
  have hn:S.n=72:=by first | (simpa using hk.n)|(have hh:=hk.n;simp at hh;exact hh)
  have hg:S.gl=gl:=by first | (simpa using hk.gl)|(have hh:=hk.gl;simp at hh;exact hh)
  have hmd:S.md=[]:=by first | (simpa using hk.md)|(have hh:=hk.md;simp at hh;exact hh)
  simp[h0,h4,hn,hg]
  have w:=wrap64 (n:=(i:Int)+1) (by omega) (by omega)
  refine BrT.dec (fun c=>?_) (fun c=>?_)
  · have hi2:i<l.length:=by omega
    have hlen:=defs_len l
    have hfit:i*4+4≤l.length*4:=by omega
    have hat:=defs_at l hi2
    have hS:=hsm _ (List.getElem_mem hi2)
    have bad:defB l[i]=false→z=1:=fun h=>by rw[← hz,if_pos (by rw[all_bad hi2 h];decide)]
    have good:=all_take (p:=defB) hi2 hp
    have hcl:=accN_len Def.name l hi
    obtain⟨x,hx1⟩:∃ x,l[i].name=x:=⟨_,rfl⟩
    have hsn:=fun S' q h1 h2=>AccD.snoc (f:=Def.name) (l:=l) (S:=S) (S':=S') (i:=i) (q:=q) hi2 h1 h2 hx1.symm
    generalize hav:l[i]=d at hS bad good hat hx1
    have hF:=p_l2Form (gl:=gl) d hS
    obtain⟨dn,kind,fs,words⟩:=d
    simp only at hx1
    subst hx1
    simp only[Def.cells] at hat
    have hat_0:=row_get0 hat (by decide) rfl
    have hat_0'':=(List.getElem?_eq_some_iff.1 hat_0).2
    have hat_0':i*4<_:=Nat.lt_of_lt_of_le (by omega) hfit
    have hat_0_4:=row_sub0 hat 4 (by decide)
    have hat_0_4':i*4+4≤_:=Nat.le_trans (by omega) hfit
    rcases hA with ⟨hi0,hcs,rfl⟩ | ⟨hpos,q,hq0,rfl,hT0⟩
    case' inl=>simp[h0,h3,h4,hn,hmd,c,hat_0',hat_0'',hat_0_4,hat_0_4',hlen]
    case' inr=>simp[h0,h3,h4,hn,hmd,c,hat_0',hat_0'',hat_0_4,hat_0_4',hlen,hT0,hcl]
    all_goals
      refine⟨by unfold appBound;omega,?_⟩
      repeat refine⟨DrawT.mk (by kernel_rfl),?_⟩
      refine CallT.p0 (hF) (by first | rfl | (simp;done)|(simp[hg];done)) (by first | rfl | (simp;done)|(simp;rfl)|(simp[h0,h3,h4,hn,hg,hmd,c,hat_0,hat_0',hat_0'',hat_0_4,hat_0_4',hi2,w,hlen,hfit,Def.cells];done)) ?_
      simp[hn]
      refine BrT.mk (fun c1=>?_) (fun c1=>?_)
      case refine_2=>(have hq:=bad c1;simp[hn,c1,hq])
      have hp2:allUp defB l (i+1):=good c1
      simp[h0,h4,hn,w,c1]
      first
      | exact⟨⟨i+1,hi2,by omega,by subst hi0;exact hsn _ _ (by simp) (by simp),hp2⟩,upTo_lt h4 (by simp) hi2⟩
      | exact⟨⟨i+1,hi2,by omega,hsn _ _ (by simp;omega) (by simp),hp2⟩,upTo_lt h4 (by simp) hi2⟩
  · have hi3:i=l.length:=by omega
    subst hi3
    have hall:=allUp_all hp
    rw[if_neg (by rw[hall];decide)] at hz
    have hd:∀ d∈l,defB d=true∧DefOk d:=fun d hm=>⟨List.all_eq_true.1 hall d hm,def_ok (hsm d hm)⟩
    have hnm:NamesOk (defNames l):=⟨by simp;omega,fun s hs=>by
      obtain⟨a,ha,rfl⟩:=List.mem_map.1 hs
      exact (hd a ha).2.1⟩
    have hX:=hA.names
    unfold checkQ at hz
    simp[h0,hn,c]
    refine BrT.dec (fun t0=>?_) (fun t0=>?_)
    case refine_1=>(rw[if_pos (by omega)] at hz;simp[hn,t0, ← hz])
    have hl10:l.length≤10:=by omega
    rw[if_neg (by omega)] at hz
    simp[h3,hn,t0]
    repeat refine⟨DrawT.mk (by kernel_rfl),?_⟩
    refine CallT.p0 (p_l1Once (defNames l) hnm) (by first | rfl | (simp;done)|(simp[h0,h3,h4,hn,hg,hmd,c,hX,t0];done)) (by first | rfl | (simp;done)|(simp;rfl)|(simp[hX];done)) ?_
    simp[hn]
    refine BrT.mk (fun t1=>?_) (fun t1=>?_)
    case refine_2=>(rw[if_pos (by rw[t1];decide)] at hz;simp[hn,t1, ← hz])
    rw[if_neg (fun e=>e t1)] at hz
    simp[h0,hn,t1]
    have hN:=p_l2Names (gl:=gl) l (by omega) hd
    generalize namesZ l=nz at hN hz
    repeat refine⟨DrawT.mk (by kernel_rfl),?_⟩
    refine CallT.p0 (hN) (by first | rfl | (simp;done)|(simp[hg];done)) (by first | rfl | (simp;done)|(simp;rfl)|(simp[h0,h3,h4,hn,hg,hmd,c,hX,t0,t1];done)) ?_
    simp[hn]
    refine BrT.dec (fun t2=>?_) (fun t2=>?_)
    case' refine_2 =>
      rw[if_pos t2] at hz
      simp[h0,hn,t2]
      repeat refine⟨DrawT.mk (by kernel_rfl),?_⟩
      refine CallT.p0 (hN) (by first | rfl | (simp;done)|(simp[hg];done)) (by first | rfl | (simp;done)|(simp;rfl)|(simp[h0,h3,h4,hn,hg,hmd,c,hX,t0,t1,t2];done)) ?_
      simp[hn, ← hz]
    rw[if_neg (fun e=>e t2)] at hz
    simp[h0,hn,t2]
    have hQ:=p_l2Kind (gl:=gl) l queryS (by omega)
    have hM:=p_l2Kind (gl:=gl) l mutS (by omega)
    have hMa:=p_l2At (gl:=gl) l mutS (by omega)
    unfold rootBad at hz
    generalize kindZ l queryS=kq at hQ hz
    generalize kindZ l mutS=km at hM hz
    generalize atZ l mutS=am at hMa hz
    repeat refine⟨DrawT.mk (by kernel_rfl),?_⟩
    refine CallT.p0 (hQ) (by first | rfl | (simp;done)|(simp[hg];done)) (by first | rfl | (simp;done)|(simp;rfl)|(simp[h0,h3,h4,hn,hg,hmd,c,hX,t0,t1,t2];done)) ?_
    simp[hn]
    refine BrT.dec (fun t3=>?_) (fun t3=>?_)
    case refine_2=>(rw[if_pos (by rw[decide_eq_false t3];rfl)] at hz;simp[hn,t3, ← hz])
    rw[decide_eq_true t3,Bool.not_true,Bool.false_or] at hz
    simp[h0,hn,t3]
    repeat refine⟨DrawT.mk (by kernel_rfl),?_⟩
    refine CallT.p0 (hMa) (by first | rfl | (simp;done)|(simp[hg];done)) (by first | rfl | (simp;done)|(simp;rfl)|(simp[h0,h3,h4,hn,hg,hmd,c,hX,t0,t1,t2,t3];done)) ?_
    simp[hn]
    refine BrT.dec (fun t4=>?_) (fun t4=>?_)
    case' refine_1 =>
      rw[decide_eq_true t4,Bool.true_and] at hz
      simp[h0,hn,t4]
      repeat refine⟨DrawT.mk (by kernel_rfl),?_⟩
      refine CallT.p0 (hM) (by first | rfl | (simp;done)|(simp[hg];done)) (by first | rfl | (simp;done)|(simp;rfl)|(simp[h0,h3,h4,hn,hg,hmd,c,hX,t0,t1,t2,t3,t4];done)) ?_
      simp[hn]
      refine BrT.dec (fun t5=>?_) (fun t5=>?_)
      case refine_2=>(rw[decide_eq_false t5,if_pos (by decide)] at hz;simp[hn,t5, ← hz])
      rw[decide_eq_true t5,if_neg (by decide)] at hz
      simp[h0,hn,t5]
    case' refine_2 =>
      rw[decide_eq_false t4,Bool.false_and,if_neg (by decide)] at hz
      simp[h0,hn,t4]
    all_goals
      repeat refine⟨DrawT.mk (by kernel_rfl),?_⟩
      refine CallT.p0 (p_l2Else l (by omega) hd) (by first | rfl | (simp;done)|(simp[h0,h3,h4,hn,hg,hmd,c,hX,t0,t1,t2,t3,t4];done)) (by first | rfl | (simp;done)|(simp;rfl)|(simp[h0,h3,h4,hn,hg,hmd,c,hX,t0,t1,t2,t3,t4];done)) ?_
      simp[hn]
      refine BrT.mk (fun t6=>?_) (fun t6=>?_)
      case refine_2=>(rw[if_pos (by rw[t6];decide)] at hz;simp[hn,t6, ← hz])
      rw[if_neg (fun e=>e t6)] at hz
      simp[hn,t6]
      refine LoopT.round (fun E S=>∃ (i:Nat),(i≤l.length)∧E 0=some (.d (defsD l))∧E 5=some (.d (dI i))∧(noUp (fun d=>roundZ l (l.length+1) d.name) l i)) (upTo 5 l.length) ⟨0,by simp[h0];exact noUp_zero _ _⟩ ?_
      rintro E S hk ⟨i,hi,h0,h5,hpr⟩
      have hn:S.n=72:=by first | (simpa using hk.n)|(have hh:=hk.n;simp[hn] at hh;exact hh)
      have hg:S.gl=gl:=by first | (simpa using hk.gl)|(have hh:=hk.gl;simp[hg] at hh;exact hh)
      have hmd:S.md=[]:=by first | (simpa using hk.md)|(have hh:=hk.md;simp[hmd] at hh;exact hh)
      simp[h0,h5,hn,hg]
      have w:=wrap64 (n:=(i:Int)+1) (by omega) (by omega)
      refine BrT.dec (fun c5=>?_) (fun c5=>?_)
      · have hi2:i<l.length:=by omega
        have hlen:=defs_len l
        have hfit:i*4+4≤l.length*4:=by omega
        have hat:=defs_at l hi2
        have yes:=any_at (p:=fun d=>roundZ l (l.length+1) d.name) hi2
        have gd:=noUp_next (p:=fun d=>roundZ l (l.length+1) d.name) hi2 hpr
        generalize l[i]=d at hat yes gd
        obtain⟨dn,kind,fs,words⟩:=d
        have hR:=p_l2Round (gl:=gl) l (by omega) (fun d hm=>(hd d hm).2) (l.length+1) dn (Nat.le_refl _)
        rw[Nat.sub_self] at hR
        simp only[Def.cells] at hat
        simp only at yes gd
        have hat_0:=row_get0 hat (by decide) rfl
        have hat_0'':=(List.getElem?_eq_some_iff.1 hat_0).2
        have hat_0':i*4<_:=Nat.lt_of_lt_of_le (by omega) hfit
        simp[h0,h5,hn,c5,hat_0',hat_0'',hlen]
        repeat refine⟨DrawT.mk (by kernel_rfl),?_⟩
        refine CallT.p0 (hR) (by first | rfl | (simp;done)|(simp[hg];done)) (by first | rfl | (simp;done)|(simp;rfl)|(simp[h0,h3,h4,hn,hg,hmd,c,hX,t0,t1,t2,t3,t4,t6,h0,h5,hn,hg,hmd,c5,hat_0,hat_0',hat_0'',hi2,w,hlen,hfit];done)) ?_
        simp
        refine BrT.mk (fun c6=>?_) (fun c6=>?_)
        · have hq:roundP l=true:=yes c6
          rw[if_pos hq] at hz
          simp[hn,c6, ← hz]
        · simp[h0,h5,hn,w,c6]
          exact⟨⟨i+1,hi2,by omega,gd c6⟩,upTo_lt h5 (by simp) hi2⟩
      · have hi3:i=l.length:=by omega
        subst hi3
        have hq:roundP l=false:=noUp_all hpr
        rw[if_neg (by rw[hq];decide)] at hz
        simp[c,hn, ← hz]
end Go.Proofs.YtlmpjblmmpddeaaGreat
namespace Go.Proofs.YtlmpjblmmpddeaaGreat
open Go.Sh
section
variable {l:List Def}
theorem form_kind (h:∀ d∈l,defB d=true):∀ d∈l,d.kind=1∨d.kind=2∨d.kind=3∨d.kind=4:=fun d hd=>by
  have:=h d hd
  unfold defB at this
  rw[Bool.and_eq_true] at this
  have:=this.2
  split at this
  · omega
  · split at this
    · omega
    · cases this
theorem form_name (h:∀ d∈l,defB d=true):∀ d∈l,nameB d.name=true∧groundB d.name=false:=fun d hd=>by
  have:=h d hd
  unfold defB at this
  rw[Bool.and_eq_true,Bool.and_eq_true] at this
  exact⟨this.1.1,by simpa using this.1.2⟩
theorem at_mem {s:ByteArray}{j:Nat} (h:atD l s=some j):∃ hj:j<l.length,l[j].name=s:=by
  obtain⟨h1,h2,_⟩:=List.findIdx?_eq_some_iff_getElem.1 h
  exact⟨h1,by simpa using h2⟩
theorem ground_at (h:∀ d∈l,defB d=true) {s:ByteArray} (hg:groundB s=true):atD l s=none:=by
  cases ha:atD l s with
  | none=>rfl
  | some j =>
    obtain⟨hj,he⟩:=at_mem ha
    have:=(form_name h _ (List.getElem_mem hj)).2
    rw[he,hg] at this;cases this
theorem kindL_at {s:ByteArray}{j:Nat} (h:atD l s=some j) (hj:j<l.length):kindL l s=l[j].kind:=by rw[kindL,defL_some h]
theorem kind_both (h:∀ d∈l,defB d=true) (s:ByteArray):(groundB s=true∧kindZ l s=0∧kindL l s=0∧atD l s=none)∨(groundB s=false∧atD l s=none∧kindZ l s = -1∧kindL l s=0) ∨
    (groundB s=false∧(∃ j,atD l s=some j)∧kindZ l s=kindL l s∧(kindL l s=1∨kindL l s=2∨kindL l s=3∨kindL l s=4)):=by
  cases hg:groundB s with
  | true =>
    have ha:=ground_at h hg
    exact .inl ⟨rfl,by rw[kindZ,if_pos hg],by rw[kindL,defL_none ha];rfl,ha⟩
  | false =>
    refine .inr ?_
    cases ha:atD l s with
    | none =>
      refine .inl ⟨rfl,rfl,?_,by rw[kindL,defL_none ha];rfl⟩
      have:atZ l s = -1:=by unfold atZ;rw[ha]
      rw[kindZ,if_neg (by rw[hg];decide),if_pos (by omega)]
    | some j =>
      obtain⟨hj,he⟩:=at_mem ha
      refine .inr ⟨rfl,⟨j,rfl⟩,?_,?_⟩
      · have:atZ l s=j:=by unfold atZ;rw[ha]
        rw[kindZ,if_neg (by rw[hg];decide),if_neg (by omega)]
      · rw[kindL_at ha hj]
        exact form_kind h _ (List.getElem_mem hj)
theorem miss_eq (h:∀ d∈l,defB d=true) (s:ByteArray):decide (kindZ l s<0) = !hereB l s:=by
  unfold hereB
  rcases kind_both h s with ⟨h1,h2,h3,h4⟩ | ⟨h1,h2,h3,h4⟩ | ⟨h1,⟨j,h2⟩,h3,h4⟩
  · rw[h1,h2];simp
  · rw[h1,h2,h3];simp
  · rw[h1,h2]
    have:¬ kindZ l s<0:=by omega
    rw[decide_eq_false this];rfl
theorem goes_in (h:∀ d∈l,defB d=true) (s:ByteArray):goesB l s true=givenB l s:=by
  unfold goesB givenB
  rcases kind_both h s with ⟨h1,h2,h3,h4⟩ | ⟨h1,h2,h3,h4⟩ | ⟨h1,⟨j,h2⟩,h3,h4⟩
  · rw[h1,h2];simp
  · rw[h1,h3,h4];decide
  · rw[h1,h3]
    rcases h4 with h4 | h4 | h4 | h4<;>rw[h4]<;>decide
theorem goes_out (h:∀ d∈l,defB d=true) (s:ByteArray):goesB l s false=outB l s:=by
  unfold goesB outB
  rcases kind_both h s with ⟨h1,h2,h3,h4⟩ | ⟨h1,h2,h3,h4⟩ | ⟨h1,⟨j,h2⟩,h3,h4⟩
  · rw[h1,h2];simp
  · rw[h1,h3,h4];decide
  · rw[h1,h3]
    rcases h4 with h4 | h4 | h4 | h4<;>rw[h4]<;>decide
theorem obj_eq (h:∀ d∈l,defB d=true) (s:ByteArray):decide (kindZ l s=1)=decide (kindL l s=1):=by
  rcases kind_both h s with ⟨h1,h2,h3,h4⟩ | ⟨h1,h2,h3,h4⟩ | ⟨h1,⟨j,h2⟩,h3,h4⟩
  · rw[h2,h3]
  · rw[h3,h4];decide
  · rw[h3]
theorem form_words (h:∀ d∈l,defB d=true):∀ d∈l,(d.kind=1∨d.kind=3→d.words=[])∧(d.kind=2∨d.kind=4→d.flds=[]):=fun d hd=>by
  have:=h d hd
  unfold defB at this
  rw[Bool.and_eq_true] at this
  have:=this.2
  split at this
  · rename_i hk
    rw[Bool.and_eq_true] at this
    refine⟨fun _=>List.eq_nil_of_length_eq_zero (of_decide_eq_true this.1),fun e=>by omega⟩
  · rename_i hk
    split at this
    · rw[Bool.and_eq_true] at this
      refine⟨fun e=>absurd e hk,fun _=>List.eq_nil_of_length_eq_zero (of_decide_eq_true this.1)⟩
    · cases this
theorem not_any {α:Type} (p:α→Bool) (l:List α):(!l.any p)=l.all fun x=>!p x:=by
  induction l with
  | nil=>rfl
  | cons x r ih=>simp[← ih]
theorem all_congr {α:Type}{p q:α→Bool}{l:List α} (h:∀ x∈l,p x=q x):l.all p=l.all q:=by
  rw[Bool.eq_iff_iff,List.all_eq_true,List.all_eq_true]
  exact⟨fun k x hx=>by rw[← h x hx];exact k x hx,fun k x hx=>by rw[h x hx];exact k x hx⟩
theorem any_congr {α:Type}{p q:α→Bool}{l:List α} (h:∀ x∈l,p x=q x):l.any p=l.any q:=by
  rw[Bool.eq_iff_iff,List.any_eq_true,List.any_eq_true]
  exact⟨fun ⟨x,hx,k⟩=>⟨x,hx,by rw[← h x hx];exact k⟩,fun ⟨x,hx,k⟩=>⟨x,hx,by rw[h x hx];exact k⟩⟩
theorem missD_eq (h:∀ d∈l,defB d=true) (d:Def) (hd:d∈l):missD l d = !defHere l d:=by
  have hF:d.flds.any (missF l) = !d.flds.all (fldHere l):=by
    rw[← Bool.not_not (d.flds.any (missF l)),not_any]
    refine congrArg _ (all_congr fun f _=>?_)
    unfold missF fldHere
    rw[miss_eq h,Bool.not_or,Bool.not_not,not_any]
    refine congrArg _ (all_congr fun a _=>?_)
    unfold missA
    rw[miss_eq h,Bool.not_not]
  have hW:(wordsOf d).any (missW l) = !d.words.all (wordHere l d):=by
    rw[← Bool.not_not ((wordsOf d).any (missW l)),not_any]
    refine congrArg _ ?_
    unfold wordsOf
    by_cases k2:d.kind=2
    · rw[if_pos k2]
      symm
      refine List.all_eq_true.2 fun w _=>?_
      unfold wordHere
      rw[decide_eq_false (by omega)];rfl
    · rw[if_neg k2]
      by_cases k4:d.kind=4
      · refine all_congr fun w _=>?_
        unfold missW wordHere
        rw[miss_eq h,decide_eq_true k4];simp
      · have hk:=form_kind h d hd
        rw[(form_words h d hd).1 (by omega)];rfl
  unfold missD defHere
  rw[hF,hW,Bool.or_comm, ← Bool.not_and]
theorem badD_eq (h:∀ d∈l,defB d=true) (d:Def) (hd:d∈l):badD l d = !defPlaced l d:=by
  have hk:=form_kind h d hd
  have hF:d.flds.any (badF l (decide (d.kind=3))) = !d.flds.all (fldPlaced l d):=by
    rw[← Bool.not_not (d.flds.any _),not_any]
    refine congrArg _ (all_congr fun f hf=>?_)
    unfold badF fldPlaced placeB
    rw[Bool.not_or,Bool.not_not,not_any]
    have e:(f.args.all fun a=>!badA l a)=f.args.all fun a=>givenB l (baseT a.ty):=all_congr fun a _=>by
      unfold badA
      rw[goes_in h,Bool.not_not]
    rw[e]
    refine congrArg (·&&_) ?_
    by_cases k3:d.kind=3
    · rw[k3];simp[goes_in h]
    · rw[decide_eq_false k3,goes_out h]
      by_cases k1:d.kind=1
      · rw[k1];simp
      · have:d.flds=[]:=(form_words h d hd).2 (by omega)
        rw[this] at hf;cases hf
  have hW:(wordsOf d).any (badW l) = !d.words.all (wordPlaced l d):=by
    rw[← Bool.not_not ((wordsOf d).any _),not_any]
    refine congrArg _ ?_
    unfold wordsOf
    by_cases k2:d.kind=2
    · rw[if_pos k2]
      symm
      refine List.all_eq_true.2 fun w _=>?_
      unfold wordPlaced
      rw[decide_eq_false (by omega)];rfl
    · rw[if_neg k2]
      by_cases k4:d.kind=4
      · refine all_congr fun w _=>?_
        unfold badW wordPlaced
        rw[obj_eq h,decide_eq_true k4];simp
      · rw[(form_words h d hd).1 (by omega)];rfl
  unfold badD defPlaced
  rw[hF,hW,Bool.or_comm, ← Bool.not_and]
theorem names_eq (h:∀ d∈l,defB d=true):namesZ l=if ¬ (l.all (defHere l))=true then 3 else if ¬ (l.all (defPlaced l))=true then 4 else 0:=by
  have e1:l.any (missD l) = !l.all (defHere l):=by
    rw[← Bool.not_not (l.any _),not_any]
    refine congrArg _ (all_congr fun d hd=>?_)
    rw[missD_eq h d hd,Bool.not_not]
  have e2:l.any (badD l) = !l.all (defPlaced l):=by
    rw[← Bool.not_not (l.any _),not_any]
    refine congrArg _ (all_congr fun d hd=>?_)
    rw[badD_eq h d hd,Bool.not_not]
  unfold namesZ cz
  rw[e1,e2]
  cases l.all (defHere l)<;>cases l.all (defPlaced l)<;>rfl
theorem roots_eq (h:∀ d∈l,defB d=true):rootBad l = !rootsB l:=by
  unfold rootBad rootsB
  have hm:decide (0≤atZ l mutS)=(atD l mutS).isSome:=by
    unfold atZ
    cases atD l mutS with
    | none=>rfl
    | some j=>simp
  rw[obj_eq h,obj_eq h,hm]
  cases decide (kindL l queryS=1)<;>cases (atD l mutS).isSome<;>cases decide (kindL l mutS=1)<;>rfl
end
end Go.Proofs.YtlmpjblmmpddeaaGreat
namespace Go.Proofs.YtlmpjblmmpddeaaGreat
open Go.Sh
section
variable {l:List Def}
theorem atD_none_iff {a:List Def}{s:ByteArray}:atD a s=none↔¬ s∈defNames a:=by
  unfold atD
  rw[List.findIdx?_eq_none_iff]
  simp
theorem schGo_once:∀ (r acc:List Def),(defNames acc).Nodup→((schGo acc r).length=acc.length+r.length↔(defNames (acc++r)).Nodup)
  | [],acc,h=>by simpa[schGo] using h
  | d::r,acc,h=>by
    unfold schGo
    split
    · rename_i ha
      have hn:=atD_none_iff.1 ha
      have h2:(defNames (acc++[d])).Nodup:=by
        simp only[defNames,List.map_append,List.map_cons,List.map_nil]
        rw[List.nodup_append]
        refine⟨h,by simp,fun a ha b hb e=>?_⟩
        simp at hb
        exact hn (by rw[← hb, ← e];exact ha)
      have ih:=schGo_once r (acc++[d]) h2
      rw[List.append_assoc] at ih
      rw[show acc++d::r=acc++([d]++r) by simp, ← ih]
      simp;omega
    · rename_i j ha
      have hm:d.name∈defNames acc:=by
        cases hx:atD acc d.name with
        | none=>rw[hx] at ha;cases ha
        | some j=>obtain⟨hj,e⟩:=at_mem hx;exact List.mem_map.2 ⟨_,List.getElem_mem hj,e⟩
      have hl:=(schGo_len r acc).1
      refine⟨fun e=>by simp at e;omega,fun e=>?_⟩
      exfalso
      simp only[defNames,List.map_append,List.map_cons] at e
      rw[List.nodup_append] at e
      exact e.2.2 _ hm _ (List.mem_cons_self) rfl
theorem sch_once (l:List Def):(schL l).length=l.length↔(defNames l).Nodup:=by
  have:=schGo_once l [] (by simp)
  simpa[schL] using this
theorem once_iff {ns:List ByteArray}:onceB ns=true↔(∀ s∈ns,nameB s=true)∧ns.Nodup:=by
  unfold onceB
  rw[allTo_iff]
  unfold List.Nodup
  rw[List.pairwise_iff_getElem]
  constructor
  · intro h
    have h1:∀ j,(hj:j<ns.length)→nameB ns[j]=true∧∀ k,(hk:k<j)→ns[k]≠ns[j]:=fun j hj=>by
      have:=h j hj
      unfold onceP at this
      rw[Bool.and_eq_true,allTo_iff, ← nm_at hj] at this
      refine⟨this.1,fun k hk e=>?_⟩
      have h2:=this.2 k hk
      rw[← nm_at (show k<ns.length by omega)] at h2
      simp[e] at h2
    refine⟨fun s hs=>?_,fun i j hi hj hij=>(h1 j hj).2 i hij⟩
    obtain⟨j,hj,rfl⟩:=List.getElem_of_mem hs
    exact (h1 j hj).1
  · rintro ⟨h1,h2⟩ j hj
    unfold onceP
    rw[Bool.and_eq_true,allTo_iff, ← nm_at hj]
    refine⟨h1 _ (List.getElem_mem hj),fun k hk=>?_⟩
    rw[← nm_at (show k<ns.length by omega)]
    simpa using h2 k j (by omega) hj hk
theorem once_eq (h:∀ d∈l,defB d=true):onceB (defNames l)=true↔(schL l).length=l.length:=by
  rw[sch_once,once_iff]
  exact⟨fun k=>k.2,fun k=>⟨fun s hs=>by
    obtain⟨d,hd,rfl⟩:=List.mem_map.1 hs
    exact (form_name h d hd).1,k⟩⟩
theorem any_filterMap {α β:Type} (f:α→Option β) (p:β→Bool) (l:List α):(l.filterMap f).any p=l.any fun x=>match f x with | some y=>p y | none=>false:=by
  induction l with
  | nil=>rfl
  | cons x r ih =>
    rw[List.filterMap_cons]
    cases hx:f x with
    | none=>simp[hx,ih]
    | some y=>simp[hx,ih]
theorem round_steps_eq (h:∀ d∈l,defB d=true):∀ (m:Nat) (s:ByteArray),roundZ l m s=stepsB (nextN l) (fun s=>decide (kindL l s=3)) m s
  | 0,s=>rfl
  | m+1,s=>by
    rw[roundZ,stepsB]
    by_cases k3:kindL l s=3
    · refine congrArg _ ?_
      have hm:=defL_mem (l:=l) (t:=s) (by omega)
      have hty:=fld_of (h _ hm)
      rw[nextN,if_pos k3,any_filterMap]
      refine any_congr fun f hf=>?_
      rw[round_steps_eq h m]
      have hty:=(hty f hf).1
      unfold fldNext
      cases hr:isReq f.ty with
      | false=>simp
      | true =>
        by_cases kn:kindL l (tyName f.ty)=3
        · rw[if_pos ⟨rfl,kn⟩]
          have hnm:nameB (tyName f.ty)=true:=by
            obtain⟨d,hd,e⟩:=List.mem_map.1 (kind_name (l:=l) (s:=tyName f.ty) (by omega))
            rw[← e];exact (form_name h d hd).1
          have hof:(ofN f.ty).length=0:=by
            cases hq:f.ty with
            | mk t lt b =>
            rw[hq] at hty hnm
            unfold typB at hty
            have hne:t≠noS:=fun e=>by
              have:nameB t=true:=hnm
              rw[e,nameB_no] at this;cases this
            rw[if_neg hne,Bool.and_eq_true] at hty
            exact of_decide_eq_true hty.2
          simp[hof]
        · rw[if_neg (fun e=>kn e.2)]
          have:stepsB (nextN l) (fun s=>decide (kindL l s=3)) m (tyName f.ty)=false:=by
            cases hs:stepsB (nextN l) (fun s=>decide (kindL l s=3)) m (tyName f.ty) with
            | false=>rfl
            | true=>exact absurd (of_decide_eq_true (steps_ok hs)) kn
          simp[this]
    · rw[decide_eq_false k3];rfl
theorem rounds_eq (h:∀ d∈l,defB d=true):roundP l=roundB l:=by
  have hlen:(defNames l).length=l.length:=by simp
  have hB:roundB l=true↔∃ y∈defNames l,Far (nextN l) y y:=by
    unfold roundB
    rw[List.any_eq_true]
    constructor
    · rintro ⟨d,hd,hm⟩
      have:=(needs_self (nx:=nextN l) (U:=defNames l) next_name d.name).1 (by rw[hlen];exact hm)
      exact⟨d.name,List.mem_map.2 ⟨d,hd,rfl⟩,this⟩
    · rintro ⟨y,hy,hf⟩
      obtain⟨d,hd,rfl⟩:=List.mem_map.1 hy
      have:=(needs_self (nx:=nextN l) (U:=defNames l) next_name d.name).2 hf
      rw[hlen] at this
      exact⟨d,hd,this⟩
  have hP:roundP l=true↔∃ y∈defNames l,Far (nextN l) y y:=by
    unfold roundP
    rw[List.any_eq_true]
    constructor
    · rintro ⟨d,hd,hm⟩
      simp only[round_steps_eq h] at hm
      exact steps_round (fun y hy=>kind_name (by rw[of_decide_eq_true hy];decide)) (l.length+1) d.name [] hm (by simp) (by simp) (by simp)
    · rintro ⟨y,hy,hf⟩
      obtain⟨d,hd,rfl⟩:=List.mem_map.1 hy
      refine⟨d,hd,?_⟩
      simp only[round_steps_eq h]
      exact round_steps (fun x y hxy=>decide_eq_true (next_kind hxy).1) hf _ _ hf
  rw[Bool.eq_iff_iff,hP,hB]
theorem check_eq (l:List Def):checkP l=checkB l:=by
  unfold checkP checkB
  by_cases h:¬ (l.all defB)=true
  · rw[if_pos h,if_pos h];split<;>rfl
  · rw[if_neg h,if_neg h]
    have hd:∀ d∈l,defB d=true:=List.all_eq_true.1 (by simpa using h)
    unfold checkQ checkS
    by_cases h10:10<l.length
    · rw[if_pos h10,if_pos h10]
    rw[if_neg h10,if_neg h10]
    by_cases ho:onceB (defNames l)=true
    · have hs:=(once_eq hd).1 ho
      rw[if_neg (show ¬ ¬ onceB (defNames l)=true from fun e=>e ho),if_neg (show ¬ ¬ (schL l).length=l.length from fun e=>e hs),names_eq hd,roots_eq hd,rounds_eq hd]
      by_cases a1:(l.all (defHere l))=true
      · by_cases a2:(l.all (defPlaced l))=true
        · simp only[a1,a2]
          cases rootsB l<;>simp
        · simp[a1,a2]
      · simp[a1]
    · have hs:=fun e=>ho ((once_eq hd).2 e)
      rw[if_pos ho,if_pos hs]
end
variable {gl:Nat→Option D}
theorem p_spCheck (l:List Def) (hl:l.length≤1048576) (hsm:∀ d∈l,DefSm d):PCall Tryz.prog gl 15 [defsD l] (dI (checkB l)):=by
  rw[← check_eq];exact p_spSchemaCheck l hl hsm
theorem p_imCheck (l:List Def) (hl:l.length≤1048576) (hsm:∀ d∈l,DefSm d):PCall Tryz.prog gl 14 [defsD l] (dI (checkB l)):=p_SchemaCheck l (by omega) fun d hd=>def_ok (hsm d hd)
end Go.Proofs.YtlmpjblmmpddeaaGreat
namespace Go.Proofs.YtlmpjblmmpddeaaGreat
open Go.Sh
theorem check_zero {l:List Def}:checkB l=0↔(l.length≤10∧l.all defB=true∧(schL l).length=l.length∧l.all (defHere l)=true∧l.all (defPlaced l)=true∧rootsB l=true∧l.all (defFits l)=true∧roundB l=false):=by
  unfold checkB checkS
  by_cases a1:10<l.length
  · rw[if_pos a1];exact⟨fun h=>absurd h (by decide),fun h=>by omega⟩
  rw[if_neg a1]
  by_cases a2:l.all defB=true
  · rw[if_neg (fun h=>h a2)]
    by_cases a3:(schL l).length=l.length
    · rw[if_neg (fun h=>h a3)]
      by_cases a4:l.all (defHere l)=true
      · rw[if_neg (fun h=>h a4)]
        by_cases a5:l.all (defPlaced l)=true
        · rw[if_neg (fun h=>h a5)]
          by_cases a6:rootsB l=true
          · rw[if_neg (fun h=>h a6)]
            by_cases a7:l.all (defFits l)=true
            · rw[if_neg (fun h=>h a7)]
              by_cases a8:roundB l=true
              · rw[if_pos a8];exact⟨fun h=>absurd h (by decide),fun h=>by rw[a8] at h;exact absurd h.2.2.2.2.2.2.2 (by decide)⟩
              · rw[if_neg a8];exact⟨fun _=>⟨by omega,a2,a3,a4,a5,a6,a7,by simpa using a8⟩,fun _=>rfl⟩
            · rw[if_pos a7];exact⟨fun h=>absurd h (by decide),fun h=>absurd h.2.2.2.2.2.2.1 a7⟩
          · rw[if_pos a6];exact⟨fun h=>absurd h (by decide),fun h=>absurd h.2.2.2.2.2.1 a6⟩
        · rw[if_pos a5];exact⟨fun h=>absurd h (by decide),fun h=>absurd h.2.2.2.2.1 a5⟩
      · rw[if_pos a4];exact⟨fun h=>absurd h (by decide),fun h=>absurd h.2.2.2.1 a4⟩
    · rw[if_pos a3];exact⟨fun h=>absurd h (by decide),fun h=>absurd h.2.2.1 a3⟩
  · rw[if_pos a2];exact⟨fun h=>absurd h (by decide),fun h=>absurd h.2.1 a2⟩
abbrev freshS:ByteArray:=⟨#[70,114,101,115,104]⟩
end Go.Proofs.YtlmpjblmmpddeaaGreat
namespace Go.Proofs.YtlmpjblmmpddeaaGreat
open Go.Sh
variable {gl:Nat→Option D}
def valB (L:List Def) (t:Typ) (v:Val):Bool:=decide (checkB L=0)&&(typB t 3&&(okB v 6 true&&(givenB L (baseT t)&&fitsB L t v)))
set_option maxHeartbeats 8000000 in
theorem p_imFits (L:List Def) (hl:L.length≤1000000) (hsm:∀ d∈L,DefSm d) (t:Typ) (ht:TLe 4611686018427387904 t) (v:Val) (hv:WF v):PCall Tryz.prog gl 16 [defsD L,t.d,v.d] (dB (valB L t v)):=by
  have hC:=p_imCheck (gl:=gl) L (by omega) hsm
  have hT:=p_typeForm (gl:=gl) t ht
  have hO:=p_fitsIn (gl:=gl) v hv 6 true (by omega) (by omega)
  have hS:=p_schemaOf (gl:=gl) L hl
  have hG:=p_isGivenIn (gl:=gl) L (baseT t)
  have hB:=fun h=>p_baseOf (gl:=gl) t 3 h
  have hK:=fun h=>p_takes_of (gl:=gl) L t (p_takesSome L t 3 h)
  rw[takD_eq] at hK
  have hF:=fun (hd:∀ d∈L,defB d=true∧DefOk d) (h1:typB t 3=true) (h2:okB v 6 true=true)=>p_fits (gl:=gl) L hd v t 3 h1 hv (tw_of _ _ _ h2)
  have hval:valB L t v=(decide (checkB L=0)&&(typB t 3&&(okB v 6 true&&(givenB L (baseT t)&&fitsB L t v)))):=rfl
  cases t with
  | mk tn tl tb =>
  cases v with
  | mk vk vn vs vl vns =>
  generalize valB L (.mk tn tl tb) (.mk vk vn vs vl vns)=r at hval
  refine PCall.by_ (md:=[]) Tryz.func16 rfl (by kernel_rfl) (n:=34) Tryz.ntmps16 (by simp) (by decide) rfl ?_
  simp[Typ.cells,Val.cells]
  repeat refine⟨DrawT.mk (by kernel_rfl),?_⟩
  refine CallT.p0 (hC) (by first | rfl | (simp;done)|(simp[Typ.cells,Val.cells];done)) (by first | rfl | (simp;done)|(simp;rfl)|(simp[Typ.cells,Val.cells];done)) ?_
  simp
  by_cases hz:checkB L=0
  · have hs:=schL_self (check_zero.1 hz).2.2.1
    have hd:∀ d∈L,defB d=true∧DefOk d:=fun d hd=>⟨List.all_eq_true.1 (check_zero.1 hz).2.1 d hd,def_ok (hsm d hd)⟩
    rw[hs] at hS
    simp[hz]
    repeat refine⟨DrawT.mk (by kernel_rfl),?_⟩
    refine CallT.p0 (hT) (by first | rfl | (simp;done)|(simp[Typ.cells,Val.cells];done)) (by first | rfl | (simp;done)|(simp;rfl)|(simp[Typ.cells,Val.cells];done)) ?_
    simp
    cases h1:typB (.mk tn tl tb) 3 with
    | false =>
      rw[h1] at hval
      simp
      simp[hval]
    | true =>
      have hB:=hB h1
      have hK:=hK h1
      simp
      repeat refine⟨DrawT.mk (by kernel_rfl),?_⟩
      refine CallT.p0 (hO) (by first | rfl | (simp;done)|(simp[Typ.cells,Val.cells];done)) (by first | rfl | (simp;done)|(simp;rfl)|(simp[Typ.cells,Val.cells];done)) ?_
      simp
      cases h2:okB (.mk vk vn vs vl vns) 6 true with
      | false =>
        rw[h2] at hval
        simp
        simp[hval]
      | true =>
        have hF:=hF hd h1 h2
        rw[hz,h1,h2] at hval
        simp
        repeat refine⟨DrawT.mk (by kernel_rfl),?_⟩
        refine CallT.p0 (hS) (by first | rfl | (simp;done)|(simp[Typ.cells,Val.cells];done)) (by first | rfl | (simp;done)|(simp;rfl)|(simp[Typ.cells,Val.cells];done)) ?_
        simp
        repeat refine⟨DrawT.mk (by kernel_rfl),?_⟩
        refine CallT.p0 (hB) (by first | rfl | (simp;done)|(simp[Typ.cells,Val.cells];done)) (by first | rfl | (simp;done)|(simp;rfl)|(simp[Typ.cells,Val.cells];done)) ?_
        simp
        repeat refine⟨DrawT.mk (by kernel_rfl),?_⟩
        refine CallT.p0 (hG) (by first | rfl | (simp;done)|(simp[Typ.cells,Val.cells];done)) (by first | rfl | (simp;done)|(simp;rfl)|(simp[Typ.cells,Val.cells];done)) ?_
        simp
        cases h3:givenB L (baseT (.mk tn tl tb)) with
        | false =>
          rw[h3] at hval
          simp
          simp[hval]
        | true =>
          rw[h3] at hval
          simp
          repeat refine⟨DrawT.mk (by kernel_rfl),?_⟩
          refine CallT.p0 (hK) (by first | rfl | (simp;done)|(simp[Typ.cells,Val.cells];done)) (by first | rfl | (simp;done)|(simp;rfl)|(simp[Typ.cells,Val.cells];done)) ?_
          simp[Typ.cells]
          repeat refine⟨DrawT.mk (by kernel_rfl),?_⟩
          refine CallT.p0 (hF) (by first | rfl | (simp;done)|(simp[Typ.cells,Val.cells];done)) (by first | rfl | (simp;done)|(simp;rfl)|(simp[Typ.cells,Val.cells];done)) ?_
          simp
          simp[hval]
  · simp[hz]
    simp[hval,hz]
abbrev dU' (b:UInt8):D:=.v (.int .u8 b.toNat)
abbrev codeD (l:List UInt8):D:=.ps (l.map dU') l.length
def Rdr (S:St) (b:Nat) (c:List UInt8) (p:Nat):Prop:=b<S.nx∧S.B b=some [.d (codeD c), .d (dI p)]∧c.length≤2000∧p≤1099511627776
theorem Rdr.mono {S S':St}{b:Nat}{c:List UInt8}{p:Nat} (h:Rdr S b c p) (hB:S'.B b=S.B b) (hn:S.nx≤S'.nx):Rdr S' b c p:=⟨by have:=h.1;omega,hB.trans h.2.1,h.2.2⟩
theorem wrap_xor {a b:Int} (ha:0≤a) (ha':a<4611686018427387904) (hb:0≤b) (hb':b<4611686018427387904) :
    0≤IntKind.i64.wrap (((a % 18446744073709551616).toNat ^^^ (b % 18446744073709551616).toNat:Nat):Int)∧IntKind.i64.wrap (((a % 18446744073709551616).toNat ^^^ (b % 18446744073709551616).toNat:Nat):Int)<4611686018427387904:=by
  rw[Int.emod_eq_of_lt ha (by omega),Int.emod_eq_of_lt hb (by omega)]
  have h:=Nat.xor_lt_two_pow (n:=62) (x:=a.toNat) (y:=b.toNat) (by omega) (by omega)
  generalize a.toNat ^^^ b.toNat=q at *
  rw[wrap64 (by omega) (by omega)]
  omega
def mixX (c:List UInt8) (p:Nat):Int:=((c.getD (p % c.length) 0).toNat:Int)*131+(c.getD ((p*7+3) % c.length) 0).toNat*1117+p*29+((p / c.length:Nat):Int)*53
def mixI (c:List UInt8) (p:Nat):Int:=IntKind.i64.wrap ((((mixX c p) % 18446744073709551616).toNat ^^^ (((mixX c p) / 64) % 18446744073709551616).toNat:Nat):Int)
def pickK (c:List UInt8) (p n:Nat):Nat:=if c=[] then 0 else if p<c.length then (c.getD p 0).toNat % n else (mixI c p % n).toNat
theorem pickK_lt (c:List UInt8) (p n:Nat) (hn:1≤n):pickK c p n<n:=by
  unfold pickK
  split
  · omega
  · split
    · exact Nat.mod_lt _ (by omega)
    · have h1:=Int.emod_lt_of_pos (mixI c p) (b:=n) (by omega)
      have h2:=Int.emod_nonneg (mixI c p) (b:=(n:Int)) (by omega)
      omega
set_option maxHeartbeats 8000000 in
theorem l_pick (S0:St) (b:Nat) (c:List UInt8) (p:Nat) (n:Nat) (hS:Rdr S0 b c p) (hp:p<1099511627776) (hn:1≤n) (hn2:n≤1099511627776) :
    LCall Tryz.prog 67 [.op b 0, .d (dI n)] S0 (.d (dI (pickK c p n))) (leftS S0 0 [(b,[.d (codeD c), .d (dI ((p+1:Nat):Int))])] []):=by
  obtain⟨hb,hB,hc,_⟩:=hS
  have w1:IntKind.i64.wrap ((p:Int)+1)=((p:Int)+1):=wrap64 (by omega) (by omega)
  have w2:IntKind.i64.wrap (p:Int)=(p:Int):=wrap64 (by omega) (by omega)
  have hn1:¬ ((n:Int)<1):=by omega
  have ne:∀ k,S0.nx≤k→¬ b=k:=fun k=>by omega
  by_cases hc0:c=[]
  · subst hc0
    rw[show pickK [] p n=0 from if_pos rfl]
    refine LCall.byE (md:=[]) (leftS_keeps _ _ _ _) (by simp[SV.lt]<;>omega) Tryz.func67 rfl (by kernel_rfl) (n:=99) Tryz.ntmps67 (by simp) (by decide) rfl ?_
    simp[hB,w1,hn1]
    refine elder_old (bs:=[b]) (ts:=[]) ?_ ?_ ?_ ?_ ?_ ?_ ?_
    · simp[old_setIn]
    · simp
    · simp
    · simp[hb,ltS,SV.lt]
    · simp
    · simp
    · simp
  have hcl:0<c.length:=List.length_pos_iff.2 hc0
  have hcl1:¬ c.length=0:=by omega
  by_cases hpl:p<c.length
  · obtain⟨u,hu⟩:∃ u,u=c[p]:=⟨_,rfl⟩
    have hu2:∀ h,c[p]'h=u:=fun _=>hu.symm
    have hul:=u.toNat_lt
    have hm:(u.toNat:Int).tmod n=((u.toNat % n:Nat):Int):=by rw[Int.tmod_eq_emod_of_nonneg (by omega)];omega
    have hk:pickK c p n=u.toNat % n:=by rw[pickK,if_neg hc0,if_pos hpl,hu,List.getD_eq_getElem?_getD,List.getElem?_eq_getElem hpl];rfl
    rw[hk]
    have hw:=wrap64 (n:=(u.toNat:Int)) (by omega) (by omega)
    have hn3:¬ n=0:=by omega
    refine LCall.byE (md:=[]) (leftS_keeps _ _ _ _) (by simp[SV.lt]<;>omega) Tryz.func67 rfl (by kernel_rfl) (n:=99) Tryz.ntmps67 (by simp) (by decide) rfl ?_
    simp[hB,w1,w2,hn1,hc0,hpl,hu2,hw,hm,hn3]
    refine elder_old (bs:=[b]) (ts:=[]) ?_ ?_ ?_ ?_ ?_ ?_ ?_
    · simp[old_setIn]
    · simp
    · simp
    · simp[hb,ltS,SV.lt]
    · simp
    · simp
    · simp
  · obtain⟨i1,hi1,r1,m1⟩:∃ i1:Nat,i1<c.length∧i1=p % c.length∧(p:Int).tmod c.length=i1:=⟨p % c.length,Nat.mod_lt _ hcl,rfl,by rw[Int.tmod_eq_emod_of_nonneg (by omega)];omega⟩
    obtain⟨i2,hi2,r2,m2⟩:∃ i2:Nat,i2<c.length∧i2=(p*7+3) % c.length∧((p:Int)*7+3).tmod c.length=i2:=⟨(p*7+3) % c.length,Nat.mod_lt _ hcl,rfl,by rw[Int.tmod_eq_emod_of_nonneg (by omega)];simp⟩
    obtain⟨d,hd,r3,m3⟩:∃ d:Nat,d≤p∧d=p / c.length∧(p:Int).tdiv c.length=d:=⟨p / c.length,Nat.div_le_self _ _,rfl,by rw[Int.tdiv_eq_ediv_of_nonneg (by omega)];simp⟩
    obtain⟨u,hu⟩:∃ u,u=c[i1]:=⟨_,rfl⟩
    obtain⟨v,hv⟩:∃ v,v=c[i2]:=⟨_,rfl⟩
    have hu2:∀ h,c[i1]'h=u:=fun _=>hu.symm
    have hv2:∀ h,c[i2]'h=v:=fun _=>hv.symm
    have hul:=u.toNat_lt
    have hvl:=v.toNat_lt
    have e1:=wrap64 (n:=(p:Int)*7) (by omega) (by omega)
    have e2:=wrap64 (n:=(p:Int)*7+3) (by omega) (by omega)
    have e3:=wrap64 (n:=(u.toNat:Int)) (by omega) (by omega)
    have e4:=wrap64 (n:=(v.toNat:Int)) (by omega) (by omega)
    have e5:=wrap64 (n:=(u.toNat:Int)*131) (by omega) (by omega)
    have e6:=wrap64 (n:=(v.toNat:Int)*1117) (by omega) (by omega)
    have e7:=wrap64 (n:=(u.toNat:Int)*131+v.toNat*1117) (by omega) (by omega)
    have e8:=wrap64 (n:=(p:Int)*29) (by omega) (by omega)
    have e9:=wrap64 (n:=(u.toNat:Int)*131+v.toNat*1117+p*29) (by omega) (by omega)
    have e10:=wrap64 (n:=(d:Int)) (by omega) (by omega)
    have e11:=wrap64 (n:=(d:Int)*53) (by omega) (by omega)
    have e12:=wrap64 (n:=(u.toNat:Int)*131+v.toNat*1117+p*29+d*53) (by omega) (by omega)
    have m4:((u.toNat:Int)*131+v.toNat*1117+p*29+d*53).tdiv 64=((u.toNat:Int)*131+v.toNat*1117+p*29+d*53) / 64:=Int.tdiv_eq_ediv_of_nonneg (by omega)
    have e13:=wrap64 (n:=((u.toNat:Int)*131+v.toNat*1117+p*29+d*53) / 64) (by omega) (by omega)
    have hX:=wrap_xor (a:=(u.toNat:Int)*131+v.toNat*1117+p*29+d*53) (b:=((u.toNat:Int)*131+v.toNat*1117+p*29+d*53) / 64) (by omega) (by omega) (by omega) (by omega)
    have hn3:¬ n=0:=by omega
    have hx:mixX c p=(u.toNat:Int)*131+v.toNat*1117+p*29+d*53:=by
      unfold mixX
      rw[← r1, ← r2, ← r3,hu,hv,List.getD_eq_getElem?_getD,List.getD_eq_getElem?_getD,List.getElem?_eq_getElem hi1,List.getElem?_eq_getElem hi2];rfl
    have m5:(IntKind.i64.wrap (((((u.toNat:Int)*131+v.toNat*1117+p*29+d*53) % 18446744073709551616).toNat ^^^ ((((u.toNat:Int)*131+v.toNat*1117+p*29+d*53) / 64) % 18446744073709551616).toNat:Nat):Int)).tmod n=(pickK c p n:Int):=by
      rw[pickK,if_neg hc0,if_neg hpl,mixI,hx]
      have h0:=hX.1
      generalize IntKind.i64.wrap _=y at h0 ⊢
      have h2:=Int.emod_nonneg y (b:=(n:Int)) (by omega)
      rw[Int.tmod_eq_emod_of_nonneg h0]
      omega
    refine LCall.byE (md:=[]) (leftS_keeps _ _ _ _) (by simp[SV.lt]<;>omega) Tryz.func67 rfl (by kernel_rfl) (n:=99) Tryz.ntmps67 (by simp) (by decide) rfl ?_
    simp[hB,w1,w2,hn1,hpl,m1,m2,m3,hi1,hi2,hu2,hv2,e1,e2,e3,e4,e5,e6,e7,e8,e9,e10,e11,e12,hcl1,m4,e13,hn3,m5]
    refine⟨DrawT.mk (by kernel_rfl),?_⟩
    refine elder_old (bs:=[b]) (ts:=[]) ?_ ?_ ?_ ?_ ?_ ?_ ?_
    · simp[old_setIn]
    · simp
    · simp
    · simp[hb,ltS,SV.lt]
    · simp
    · simp
    · simp
theorem callPick {S:St}{b:Nat}{c:List UInt8}{p n:Nat}{lo:Lo}{K:Bool→SV→St→Prop}{X:SV} (hX:X=.d (dI n)) (hS:Rdr S b c p) (hp:p<1099511627776) (hn:1≤n) (hn2:n≤1099511627776) (hlo:lo.loud=true)
    (hK:K true (.d (dI (pickK c p n))) (leftS S 0 [(b,[.d (codeD c), .d (dI ((p+1:Nat):Int))])] [])):CallT lo Tryz.prog 67 [.op b 0,X] S K:=by
  subst hX
  exact CallT.l (l_pick S b c p n hS hp hn hn2) hlo hK
theorem Rdr.next {S:St}{b:Nat}{c:List UInt8}{p q:Nat}{k:Nat} (hS:Rdr S b c p) (hp:q≤1099511627776):Rdr (leftS S k [(b,[.d (codeD c), .d (dI (q:Int))])] []) b c q :=
  ⟨by have:=hS.1;simp;omega,by simp,hS.2.2.1,hp⟩
def TextRow (X:SV) (l:List ByteArray):Prop:=X=.fl (l.map dS) l.length∨X=.d (namesD l)
def ofK (c:List UInt8) (p:Nat) (l:List ByteArray):ByteArray:=l.getD (pickK c p l.length) ⟨#[]⟩
theorem ofK_mem (c:List UInt8) (p:Nat) {l:List ByteArray} (hl:l≠[]):ofK c p l∈l:=by
  have hll:0<l.length:=List.length_pos_iff.2 hl
  have:=pickK_lt c p l.length hll
  unfold ofK
  rw[List.getD_eq_getElem?_getD,List.getElem?_eq_getElem this]
  exact List.getElem_mem this
set_option maxHeartbeats 8000000 in
theorem l_of (S0:St) (b:Nat) (c:List UInt8) (p:Nat) (X:SV) (l:List ByteArray) (hX:TextRow X l) (hl:l≠[]) (hl2:l.length≤1048576) (hS:Rdr S0 b c p) (hp:p<1099511627776) :
    LCall Tryz.prog 68 [.op b 0,X] S0 (.d (dS (ofK c p l))) (leftS S0 0 [(b,[.d (codeD c), .d (dI ((p+1:Nat):Int))])] []):=by
  have hll:0<l.length:=List.length_pos_iff.2 hl
  have hk:=pickK_lt c p l.length hll
  have hb:=hS.1
  have hat:l[pickK c p l.length]?=some (ofK c p l):=by
    unfold ofK
    rw[List.getD_eq_getElem?_getD,List.getElem?_eq_getElem hk];rfl
  have hat2:∀ h,l[pickK c p l.length]'h=ofK c p l:=fun h=>by rw[List.getElem?_eq_getElem h] at hat;exact Option.some.inj hat
  rcases hX with rfl | rfl
  all_goals
    refine LCall.byE (md:=[]) (leftS_keeps _ _ _ _) (by simp[SV.lt]<;>omega) Tryz.func68 rfl (by kernel_rfl) (n:=12) Tryz.ntmps68 (by simp) (by decide) rfl ?_
    simp
    refine callPick rfl (hS.mono (by simp) (by simp)) hp (by omega) (by omega) rfl ?_
    simp[hk,hat2]
    refine elder_old (bs:=[b]) (ts:=[]) ?_ ?_ ?_ ?_ ?_ ?_ ?_
    · exact old_left (by simp) (by simp) (by simp) (by simp)
    · simp
    · simp
    · simp[hb,ltS,SV.lt]
    · simp
    · simp
    · simp
def codeOf (c:List UInt8):List UInt8:=c.take 2000
set_option maxHeartbeats 8000000 in
theorem l_open (S0:St) (c:List UInt8) (hc:c.length≤140737488351232):∃ id,S0.nx≤id∧id<S0.nx+20∧LCall Tryz.prog 45 [.d (codeD c)] S0 (.op id 0) (leftS S0 20 [(id,[.d (codeD (codeOf c)), .d (dI 0)])] []):=by
  by_cases hl:(2000:Int)<c.length
  · have h1:(2000:Int)≤c.length:=by omega
    refine⟨S0.nx+9,by omega,by omega,?_⟩
    refine LCall.byE (md:=[]) (leftS_keeps _ _ _ _) (by simp[SV.lt]<;>omega) Tryz.func45 rfl (by kernel_rfl) (n:=11) Tryz.ntmps45 (by simp) (by decide) rfl ?_
    simp[hl,h1]
    refine elder_old (bs:=[]) (ts:=[]) ?_ ?_ ?_ ?_ ?_ ?_ ?_
    · simp[old_new]
    · have e:(codeOf c).length=2000:=by unfold codeOf;simp;omega
      simp[codeD,codeOf,List.map_take]
      omega
    · simp
    · simp[ltS,SV.lt]
    · simp
    · simp
    · simp
  · refine⟨S0.nx+6,by omega,by omega,?_⟩
    refine LCall.byE (md:=[]) (leftS_keeps _ _ _ _) (by simp[SV.lt]<;>omega) Tryz.func45 rfl (by kernel_rfl) (n:=11) Tryz.ntmps45 (by simp) (by decide) rfl ?_
    simp[hl]
    refine elder_old (bs:=[]) (ts:=[]) ?_ ?_ ?_ ?_ ?_ ?_ ?_
    · simp[old_new]
    · have e:codeOf c=c:=List.take_of_length_le (by omega)
      simp[codeD,e]
    · simp
    · simp[ltS,SV.lt]
    · simp
    · simp
    · simp
def manyGo:Nat→ByteArray→ByteArray→Nat→ByteArray
  | 0,out,_,_=>out
  | f+1,out,s,n=>if n=0 then out else manyGo f (if n % 2=1 then out++s else out) (s++s) (n / 2)
theorem manyGo_size:∀ (f:Nat) (out s:ByteArray) (n:Nat),n≤f→(manyGo f out s n).size=out.size+n*s.size
  | 0,out,s,n,h=>by
    obtain rfl:n=0:=by omega
    simp[manyGo]
  | f+1,out,s,n,h=>by
    simp only[manyGo]
    split
    · rename_i h0;simp[h0]
    · rename_i h0
      rw[manyGo_size f _ _ _ (by omega)]
      have hn:n=2*(n / 2)+n % 2:=by omega
      generalize n / 2=q at *
      rcases Nat.mod_two_eq_zero_or_one n with h2 | h2
      · rw[h2] at hn
        rw[hn]
        simp[ByteArray.size_append]
        rw[← Nat.mul_two, ← Nat.mul_assoc,Nat.mul_right_comm,Nat.mul_comm q 2]
      · rw[h2] at hn
        have e:(2*q+1) % 2=1:=by omega
        rw[hn]
        simp only[e,if_true,ByteArray.size_append]
        rw[Nat.add_mul, ← Nat.mul_two,Nat.one_mul, ← Nat.mul_assoc,Nat.mul_right_comm,Nat.mul_comm q 2]
        omega
def manyS (s:ByteArray) (n:Nat):ByteArray:=manyGo n ⟨#[]⟩ s n
theorem manyS_size (s:ByteArray) (n:Nat):(manyS s n).size=n*s.size:=by
  unfold manyS
  rw[manyGo_size _ _ _ _ (Nat.le_refl _)]
  show 0+_=_
  omega
theorem manyGo_more:∀ (f g:Nat) (out s:ByteArray) (n:Nat),n≤f→n≤g→manyGo f out s n=manyGo g out s n
  | 0,0,_,_,_,_,_=>rfl
  | 0,g+1,out,s,n,h,_=>by
    obtain rfl:n=0:=by omega
    simp[manyGo]
  | f+1,0,out,s,n,_,h=>by
    obtain rfl:n=0:=by omega
    simp[manyGo]
  | f+1,g+1,out,s,n,h,h'=>by
    simp only[manyGo]
    split
    · rfl
    · exact manyGo_more f g _ _ _ (by omega) (by omega)
set_option maxHeartbeats 8000000 in
theorem p_many (s:ByteArray) (n:Nat) (hs:s.size*n≤1073741824) (hn:n≤1073741824) (hs1:s.size≤1073741824):PCall Tryz.prog gl 138 [dS s,dI n] (dS (manyS s n)):=by
  refine PCall.by_ (md:=[]) Tryz.func138 rfl (by kernel_rfl) (n:=20) Tryz.ntmps138 (by simp) (by decide) rfl ?_
  simp
  refine LoopT.round (fun E S=>∃ (out:ByteArray) (t:ByteArray) (m:Nat),E 0=some (.d (dS t))∧E 1=some (.d (dI m))∧E 5=some (.d (dS out))∧(m≤n)∧(t.size≤2147483648)∧(manyGo m out t m=manyS s n)) (fun E S=>match E 1 with | some (.d (.v (.int _ i)))=>i.toNat | _=>0) ⟨⟨#[]⟩,s,n,by simp;exact⟨by omega,rfl⟩⟩ ?_
  rintro E S hk ⟨out,t,m,h0,h1,h5,hm,hz3,hr⟩
  have hn:S.n=20:=by first | (simpa using hk.n)|(have hh:=hk.n;simp at hh;exact hh)
  have hg:S.gl=gl:=by first | (simpa using hk.gl)|(have hh:=hk.gl;simp at hh;exact hh)
  have hmd:S.md=[]:=by first | (simpa using hk.md)|(have hh:=hk.md;simp at hh;exact hh)
  simp[h1,hn]
  have key:out.size+m*t.size=n*s.size:=by rw[← manyGo_size m out t m (Nat.le_refl _),hr,manyS_size]
  rw[Nat.mul_comm] at hs
  by_cases hm0:m=0
  · subst hm0
    simp[h5,hn]
    simpa[manyGo] using hr
  have g1:t.size≤m*t.size:=Nat.le_mul_of_pos_left _ (by omega)
  have g2:0<m:=by omega
  have w1:(m:Int).tmod 2=(m:Int) % 2:=Int.tmod_eq_emod_of_nonneg (by omega)
  have w2:(m:Int).tdiv 2=((m / 2:Nat):Int):=by rw[Int.tdiv_eq_ediv_of_nonneg (by omega)];simp
  have w3:IntKind.i64.wrap ((m:Int) / 2)=(m:Int) / 2:=wrap64 (by omega) (by omega)
  have g4:t.size+t.size≤9223372036854775807:=by omega
  have g5:out.size+t.size≤9223372036854775807:=by omega
  have hr2:manyGo (m / 2) (if m % 2=1 then out++t else out) (t++t) (m / 2)=manyS s n:=by
    rw[← hr]
    obtain⟨q,hq⟩:∃ q,m=q+1:=⟨m - 1,by omega⟩
    have:manyGo m out t m=manyGo q (if m % 2=1 then out++t else out) (t++t) (m / 2):=by
      conv=>lhs;rw[hq]
      rw[manyGo, ← hq,if_neg hm0]
    rw[this]
    exact manyGo_more _ _ _ _ _ (by omega) (by omega)
  simp[h1,hn,g2,w1]
  refine BrT.dec (fun c=>?_) (fun c=>?_)
  · have c':m % 2=1:=by omega
    rw[if_pos c'] at hr2
    simp[h0,h1,h5,hn,hg,g2,w2,w3,g4,g5,c]
    exact⟨⟨_,m / 2,by omega,rfl,by omega,by omega,hr2⟩,by omega⟩
  · have c':¬ m % 2=1:=by omega
    rw[if_neg c'] at hr2
    simp[h0,h1,h5,hn,hg,g2,w2,w3,g4,c]
    exact⟨⟨_,m / 2,by omega,rfl,by omega,by omega,hr2⟩,by omega⟩
end Go.Proofs.YtlmpjblmmpddeaaGreat
namespace Go.Sh
end Go.Sh
namespace Go.Proofs.YtlmpjblmmpddeaaGreat
open Go.Sh
variable {gl:Nat→Option D}
def skZ (z n:Nat) (cs:List Sk):Sk:=if n=0 then .nil else .row (some z) n cs
theorem skZ_pos {z n:Nat}{cs:List Sk} (h:n≠0):skZ z n cs=.row (some z) n cs:=if_neg h
@[simp] theorem skZ_zero (z:Nat) (cs:List Sk):skZ z 0 cs=.nil:=if_pos rfl
theorem skZ_data {z n:Nat}{cs:List Sk} (h:n=0→cs=[]):(skZ z n cs).data=.ps (dataL cs) n:=by
  unfold skZ
  split
  · rename_i h1;subst h1;rw[h rfl];rfl
  · rfl
abbrev txK (ns:List ByteArray):List Sk:=ns.map fun s=>.d (.string s)
def skT (ns:List ByteArray):Sk:=skZ 1 ns.length (txK ns)
theorem txK_data:∀ ns:List ByteArray,dataL (txK ns)=ns.map dS
  | []=>rfl
  | s::r=>by
    have:=txK_data r
    simp only[List.map_cons,dataL,Sk.data]
    rw[this]
theorem skT_data (ns:List ByteArray):(skT ns).data=namesD ns:=by
  unfold skT
  rw[skZ_data (fun h=>by rw[List.eq_nil_of_length_eq_zero h];rfl),txK_data]
mutual
def Val.sz:Val→List Sk
  | .mk k n t l ns=>[.d (.int .i64 k), .d (.int .i64 n), .d (.string t),skZ 5 l.length (valsZ l),skT ns]
def valsZ:List Val→List Sk
  | []=>[]
  | v::r=>v.sz++valsZ r
end
@[simp] theorem sz_len (v:Val):v.sz.length=5:=by cases v;rfl
mutual
theorem sz_data:∀ v:Val,dataL v.sz=v.cells
  | .mk k n t l ns=>by
    have:(skZ 5 l.length (valsZ l)).data=valsD l:=by
      rw[skZ_data (fun h=>by rw[List.eq_nil_of_length_eq_zero h];rfl),valsZ_data l]
    simp[Val.sz,dataL,Sk.data,Val.cells,skT_data,this]
theorem valsZ_data:∀ l:List Val,dataL (valsZ l)=valsCells l
  | []=>rfl
  | v::r=>by simp[valsZ,dataL_app,valsCells,sz_data v,valsZ_data r]
end
theorem ld_z {z n:Nat}{sk:List Sk}{X:Ld} (h:X.sh=skZ z n sk):(X=.nil∧n=0)∨∃ b cs,X=.row (some z) b n cs∧shs cs=sk∧n≠0:=by
  unfold skZ at h
  split at h
  · rename_i hn
    cases X with
    | nil=>exact .inl ⟨rfl,hn⟩
    | d v=>simp[Ld.sh] at h
    | row z b m cs=>simp[Ld.sh] at h
  · rename_i hn
    cases X with
    | nil=>simp[Ld.sh] at h
    | d v=>simp[Ld.sh] at h
    | row z b m cs =>
      simp only[Ld.sh,Sk.row.injEq] at h
      obtain⟨rfl,rfl,h3⟩:=h
      exact .inr ⟨b,cs,rfl,h3,hn⟩
theorem z_one {z n:Nat}{sk:List Sk}{X:Ld} (h:X.sh=skZ z n sk):X.sv.one=true∧X.sv.cells=[X.sv]∧X.sv.cell=true:=by
  rcases ld_z h with ⟨rfl,_⟩ | ⟨b,cs,rfl,_⟩<;>exact⟨rfl,rfl,rfl⟩
theorem row_sh {z b n:Nat}{cs:List Ld}{sk:List Sk} (h:shs cs=sk) (hn:n≠0):(Ld.row (some z) b n cs).sh=skZ z n sk:=by
  rw[skZ_pos hn, ← h];rfl
theorem At.grow {S S':St}{lo hi lo2 hi' b q n m:Nat}{z z':Option Nat}{cs X:List Ld} (ha:At S lo hi [.row z b n cs]) (hX:At S' lo2 hi' X) (hq:S'.B q=some (svs (cs++X))) (ho:∀ x,lo≤x→x<hi→x≠b→S'.B x=S.B x)
    (h1:hi≤lo2) (h2:hi≤hi') (h3:lo≤q) (h4:q<hi') (h5:∀ p∈varsL X,p.1≠q) (h6:hi≤q):At S' lo hi' [.row z' q m (cs++X)]:=by
  have hr:=ha.rng
  have hn:=ha.nodup
  have hh:=ha.has
  simp only[varsL,Ld.vars,List.append_nil,List.map_cons,List.nodup_cons,List.forall_mem_cons] at hr hn hh
  have hc:At S' lo hi cs:=⟨fun p hp=>by
    rw[ho p.1 (hr.2 p hp).1 (hr.2 p hp).2 (fun e=>hn.1 (List.mem_map.2 ⟨p,hp,e⟩))];exact hh.2 p hp,hn.2,hr.2⟩
  have hlo:lo≤lo2:=by have:=hr.1;omega
  refine .row hq h3 h4 ⟨fun p hp=>?_,?_,fun p hp=>?_⟩ (fun p hp=>?_)
  · rw[varsL_app] at hp
    rcases List.mem_append.1 hp with hp | hp
    · exact hc.has p hp
    · exact hX.has p hp
  · rw[varsL_app,List.map_append]
    refine List.nodup_append.2 ⟨hc.nodup,hX.nodup,fun x hx y hy e=>?_⟩
    obtain⟨p,hp,rfl⟩:=List.mem_map.1 hx
    obtain⟨p',hp',rfl⟩:=List.mem_map.1 hy
    have:=hc.rng p hp
    have:=hX.rng p' hp'
    omega
  · rw[varsL_app] at hp
    rcases List.mem_append.1 hp with hp | hp
    · have:=hc.rng p hp;omega
    · have:=hX.rng p hp;omega
  · rw[varsL_app] at hp
    rcases List.mem_append.1 hp with hp | hp
    · have:=hc.rng p hp;omega
    · exact h5 p hp
mutual
def Typ.sk (e:Bool):Typ→List Sk
  | .mk t l b=>[.d (.string t),skR e l.length (typsSk e l), .d (.bool b)]
def typsSk (e:Bool):List Typ→List Sk
  | []=>[]
  | v::r=>v.sk e++typsSk e r
end
def Arg.sk (e:Bool) (a:Arg):List Sk:=.d (.string a.name)::(a.ty.sk e++.d (.bool a.has)::a.els.sk e)
def argsSk (e:Bool) (l:List Arg):List Sk:=l.flatMap (Arg.sk e)
def Fld.sk (e:Bool) (a:Fld):List Sk:=.d (.string a.name)::skR e a.args.length (argsSk e a.args)::a.ty.sk e
def fldsSk (e:Bool) (l:List Fld):List Sk:=l.flatMap (Fld.sk e)
def Def.sk (e:Bool) (a:Def):List Sk:=[.d (.string a.name), .d (.int .i64 a.kind),skR e a.flds.length (fldsSk e a.flds),skS e a.words]
mutual
def Typ.sz:Typ→List Sk
  | .mk t l b=>[.d (.string t),skZ 3 l.length (typsZ l), .d (.bool b)]
def typsZ:List Typ→List Sk
  | []=>[]
  | v::r=>v.sz++typsZ r
end
@[simp] theorem typ_szlen (v:Typ):v.sz.length=3:=by cases v;rfl
mutual
theorem typ_szdata:∀ v:Typ,dataL v.sz=v.cells
  | .mk t l b=>by
    have:(skZ 3 l.length (typsZ l)).data=typsD l:=by
      rw[skZ_data (fun h=>by rw[List.eq_nil_of_length_eq_zero h];simp[typsZ]),typsZ_data l]
    simp[Typ.sz,dataL,Sk.data,Typ.cells,this]
theorem typsZ_data:∀ l:List Typ,dataL (typsZ l)=typsCells l
  | []=>by simp[typsZ,dataL,typsCells]
  | v::r=>by simp[typsZ,dataL_app,typsCells,typ_szdata v,typsZ_data r]
end
def rowsZ {α:Type} (f:α→List Sk) (l:List α):List Sk:=l.flatMap f
theorem rowsZ_len {α:Type}{f:α→List Sk}{k:Nat} (h:∀ x,(f x).length=k) (l:List α):(rowsZ f l).length=l.length*k:=row_len h l
theorem rowsZ_data {α:Type}{f:α→List Sk}{g:α→List D} (h:∀ x,dataL (f x)=g x):∀ l:List α,dataL (rowsZ f l)=l.flatMap g
  | []=>rfl
  | x::r=>by
    have:=rowsZ_data h r
    simp only[rowsZ,List.flatMap_cons,dataL_app] at this ⊢
    rw[h,this]
def Arg.sz (a:Arg):List Sk:=.d (.string a.name)::(a.ty.sz++.d (.bool a.has)::a.els.sz)
@[simp] theorem arg_szlen (a:Arg):a.sz.length=10:=by simp[Arg.sz]
theorem arg_szdata (a:Arg):dataL a.sz=a.cells:=by simp[Arg.sz,dataL,dataL_app,Sk.data,Arg.cells,sz_data,typ_szdata]
def Fld.sz (a:Fld):List Sk:=.d (.string a.name)::skZ 10 a.args.length (rowsZ Arg.sz a.args)::a.ty.sz
@[simp] theorem fld_szlen (a:Fld):a.sz.length=5:=by simp[Fld.sz]
theorem fld_szdata (a:Fld):dataL a.sz=a.cells:=by
  have:(skZ 10 a.args.length (rowsZ Arg.sz a.args)).data=argsD a.args:=by
    rw[skZ_data (fun h=>by rw[List.eq_nil_of_length_eq_zero h];rfl),rowsZ_data arg_szdata];rfl
  simp[Fld.sz,dataL,Sk.data,Fld.cells,this,typ_szdata]
def Def.sz (a:Def):List Sk:=[.d (.string a.name), .d (.int .i64 a.kind),skZ 5 a.flds.length (rowsZ Fld.sz a.flds),skT a.words]
@[simp] theorem def_szlen (a:Def):a.sz.length=4:=by simp[Def.sz]
theorem def_szdata (a:Def):dataL a.sz=a.cells:=by
  have:(skZ 5 a.flds.length (rowsZ Fld.sz a.flds)).data=fldsD a.flds:=by
    rw[skZ_data (fun h=>by rw[List.eq_nil_of_length_eq_zero h];rfl),rowsZ_data fld_szdata];rfl
  simp[Def.sz,dataL,Sk.data,Def.cells,this,skT_data]
def skDefs (l:List Def):Sk:=skZ 4 l.length (rowsZ Def.sz l)
theorem skDefs_data (l:List Def):(skDefs l).data=defsD l:=by
  unfold skDefs
  rw[skZ_data (fun h=>by rw[List.eq_nil_of_length_eq_zero h];rfl),rowsZ_data def_szdata];rfl
end Go.Proofs.YtlmpjblmmpddeaaGreat
namespace Go.Proofs.YtlmpjblmmpddeaaGreat
open Go.Sh
def AccZ (S:St) (lo hi z n:Nat) (sk:List Sk) (X:SV):Prop:=∃ x:Ld,X=x.sv∧x.sh=skZ z n sk∧At S lo hi [x]
theorem AccZ.nil {S:St}{lo hi z:Nat}:AccZ S lo hi z 0 [] (.fl [] 0):=⟨.nil,rfl,by simp[Ld.sh], .cons_nil .nil⟩
theorem AccZ.keep {S S':St}{lo hi z n lo' hi':Nat}{sk:List Sk}{X:SV} (h:AccZ S lo hi z n sk X) (hB:∀ b,lo≤b→b<hi→S'.B b=S.B b) (h1:lo'≤lo) (h2:hi≤hi'):AccZ S' lo' hi' z n sk X:=by
  obtain⟨x,e1,e2,e3⟩:=h
  exact⟨x,e1,e2,(e3.keep hB).le h1 h2⟩
theorem AccZ.one {S:St}{lo hi z n:Nat}{sk:List Sk}{X:SV} (h:AccZ S lo hi z n sk X):X.one=true∧X.cells=[X]∧X.cell=true:=by
  obtain⟨x,rfl,e2,_⟩:=h
  exact z_one e2
structure SameT (S S':St):Prop where
  T:S'.T=S.T
  nx:S'.nx=S.nx
  n:S'.n=S.n
  gl:S'.gl=S.gl
  md:S'.md=S.md
theorem OpT_addZ {P:Program}{S1 S:St}{lo hi z n:Nat}{sk:List Sk}{X:SV}{N:List Ld}{xs:List SV}{lo2 hi2 hi' id:Nat}{dst:Option Nat}{T e by_:Nat}{K:Bool→SV→Eff→Prop}
    (h:AccZ S1 lo hi z n sk X) (hl:sk.length=n*z) (hS:∀ b,lo≤b→b<hi→S.B b=S1.B b) (hx:xs=svs N) (hN:At S lo2 hi2 N) (hNl:N.length=z) (hT:appOf P T=some (e,z,by_)) (hb:appBound n 1 by_)
    (h1:hi≤lo2) (h2:hi≤id) (h3:lo≤id) (h4:id<hi') (h5:hi2≤hi') (h6:lo≤lo2) (h7:∀ p∈varsL N,p.1≠id)
    (hK:∀ X' S' E',S.app id E'=S'→AccZ S' lo hi' z (n+1) (sk++shs N) X'→(∀ b,(b<lo∨hi≤b)→b≠id→S'.B b=S.B b)→SameT S S'→K true X' E'):OpT (evalAppend P S id dst T X (.ls xs 1)) K:=by
  obtain⟨x,rfl,e2,e3⟩:=h
  subst hx
  rcases ld_z e2 with ⟨rfl,h0⟩ | ⟨b',cs,rfl,hsc,hpos⟩
  · subst h0
    have hs:sk=[]:=List.eq_nil_of_length_eq_zero (by omega)
    subst hs
    have he:evalAppend P S id dst T (Ld.nil).sv (.ls (svs N) 1)=some (.sk id 1 z, .new (svs N)):=by
      rw[Ld.sv_nil,evalAppend_fl]
      simp[hT,hNl,onlyIf,hb]
    rw[he]
    have hB:∀ b,b≠id→(S.app id (.new (svs N))).B b=S.B b:=fun b hb=>upd_ne _ _ hb
    refine hK _ _ _ rfl ⟨.row (some z) id 1 N,rfl,?_,?_⟩ (fun b _ hb=>hB b hb) ⟨rfl,rfl,rfl,rfl,rfl⟩
    · rw[List.nil_append];exact row_sh rfl (by omega)
    · exact .row (upd_same _ _ _) h3 h4 ⟨fun p hp=>(hB p.1 (h7 p hp)).trans (hN.has p hp),hN.nodup,fun p hp=>by have:=hN.rng p hp;omega⟩ h7
  · have e4:At S lo hi [.row (some z) b' n cs]:=e3.keep hS
    have hbb:=e4.has (b',svs cs) (by simp[varsL,Ld.vars])
    have hrg:=e4.rng (b',svs cs) (by simp[varsL,Ld.vars])
    simp only at hbb hrg
    have hA:(svs cs).length=n*z:=by rw[svs_len, ← shs_len,hsc,hl]
    have htk:List.take (n*z) (svs cs)=svs cs:=List.take_of_length_le (by omega)
    have he:evalAppend P S id dst T (Ld.row (some z) b' n cs).sv (.ls (svs N) 1)=some (.sk id (n+1) z, .mov b' (svs cs++svs N)):=by
      rw[Ld.sv_row,rowV_some,evalAppend_sk,hbb,hT]
      have hA2:cs.length=n*z:=by rw[← svs_len,hA]
      have htk2:List.take (n*z) (svs cs)=svs cs:=htk
      simp[hNl,onlyIf,hb,hA2,htk2]
    rw[he]
    have hq:(S.app id (.mov b' (svs cs++svs N))).B id=some (svs (cs++N)):=by
      rw[svs_app];simp
    have hB:∀ b,b≠id→b≠b'→(S.app id (.mov b' (svs cs++svs N))).B b=S.B b:=fun b hb hb2=>by
      show upd (fun x=>if x=b' then none else S.B x) id _ b=_
      rw[upd_ne _ _ hb,if_neg hb2]
    have hN':At (S.app id (.mov b' (svs cs++svs N))) lo2 hi2 N:=⟨fun p hp=>(hB p.1 (h7 p hp) (fun e=>by have:=hN.rng p hp;omega)).trans (hN.has p hp),hN.nodup,hN.rng⟩
    refine hK _ _ _ rfl ⟨.row (some z) id (n+1) (cs++N),rfl,?_,?_⟩ (fun b hb1 hb2=>hB b hb2 (by omega)) ⟨rfl,rfl,rfl,rfl,rfl⟩
    · exact row_sh (by rw[shs_app,hsc]) (by omega)
    · exact e4.grow (lo2:=lo2) (hi':=hi') (hN'.le (Nat.le_refl _) h5) hq (fun x q1 q2 q3=>hB x (by omega) q3) h1 (by omega) h3 h4 h7 h2
theorem CallT.x {P:Program}{lo:Lo}{g:FuncId}{ss:List SV}{S:St}{K:Bool→SV→St→Prop}{Q:SV→St→Prop} (h:∃ r S',LCall P g ss S r S'∧Q r S') (hl:lo.loud=true) (k:∀ r S',Q r S'→K true r S'):CallT lo P g ss S K:=by
  obtain⟨r,S',h1,h2⟩:=h
  exact CallT.l h1 hl (k r S' h2)
structure Got (S S':St) (R:Nat) (rc:List SV) (X:List Ld):Prop where
  n:S'.n=S.n
  gl:S'.gl=S.gl
  md:S'.md=S.md
  nx:S.nx≤S'.nx
  rd:S'.B R=some rc
  old:∀ x,x<S.nx→x≠R→S'.B x=S.B x
  T:∀ x,x<S.nx→S'.T x=S.T x
  new:At S' S.nx S'.nx X
end Go.Proofs.YtlmpjblmmpddeaaGreat
namespace Go.Proofs.YtlmpjblmmpddeaaGreat
open Go.Sh
variable {gl:Nat→Option D}
abbrev rdP (c:List UInt8) (p:Nat):List SV:=[.d (codeD c), .d (dI (p:Int))]
theorem got_left {S:St}{b:Nat}{cs:List SV} (hb:b<S.nx):Got S (leftS S 0 [(b,cs)] []) b cs [] :=
  ⟨rfl,rfl,rfl,by simp,by simp,fun x h1 h2=>by simp[h2];omega,fun x h1=>by simp;omega, .nil⟩
theorem x_pick (S0:St) (b:Nat) (c:List UInt8) (p n:Nat) (hb:b<S0.nx) (h:S0.B b=some (rdP c p)) (hc:c.length≤2000) (hp:p≤1000000) (hn:1≤n) (hn2:n≤1000000) :
    ∃ r S',LCall Tryz.prog 67 [.op b 0, .d (dI n)] S0 r S'∧(r=.d (dI (pickK c p n))∧Got S0 S' b (rdP c (p+1)) []) :=
  ⟨_,_,l_pick S0 b c p n ⟨hb,h,hc,by omega⟩ (by omega) hn (by omega),rfl,got_left hb⟩
theorem x_of (S0:St) (b:Nat) (c:List UInt8) (p:Nat) (X:SV) (l:List ByteArray) (hX:TextRow X l) (hl:l≠[]) (hl2:l.length≤1000000) (hb:b<S0.nx) (h:S0.B b=some (rdP c p)) (hc:c.length≤2000) (hp:p≤1000000) :
    ∃ r S',LCall Tryz.prog 68 [.op b 0,X] S0 r S'∧(r=.d (dS (ofK c p l))∧Got S0 S' b (rdP c (p+1)) []) :=
  ⟨_,_,l_of S0 b c p X l hX hl (by omega) ⟨hb,h,hc,by omega⟩ (by omega),rfl,got_left hb⟩
def IntRow (X:SV) (l:List Int):Prop:=X=.fl (l.map fun i=>dI i) l.length∨X=.d (.ps (l.map fun i=>dI i) l.length)
def oneK (c:List UInt8) (p:Nat) (l:List Int):Int:=l.getD (pickK c p l.length) 0
theorem oneK_mem (c:List UInt8) (p:Nat) {l:List Int} (hl:l≠[]):oneK c p l∈l:=by
  have hll:0<l.length:=List.length_pos_iff.2 hl
  have:=pickK_lt c p l.length hll
  unfold oneK
  rw[List.getD_eq_getElem?_getD,List.getElem?_eq_getElem this]
  exact List.getElem_mem this
set_option maxHeartbeats 8000000 in
theorem x_one (S0:St) (b:Nat) (c:List UInt8) (p:Nat) (X:SV) (l:List Int) (hX:IntRow X l) (hl:l≠[]) (hl2:l.length≤1000000) (hb:b<S0.nx) (h:S0.B b=some (rdP c p)) (hc:c.length≤2000) (hp:p≤1000000) :
    ∃ r S',LCall Tryz.prog 98 [.op b 0,X] S0 r S'∧(r=.d (dI (oneK c p l))∧Got S0 S' b (rdP c (p+1)) []):=by
  have hll:0<l.length:=List.length_pos_iff.2 hl
  have hk:=pickK_lt c p l.length hll
  have hat:l[pickK c p l.length]?=some (oneK c p l):=by
    unfold oneK
    rw[List.getD_eq_getElem?_getD,List.getElem?_eq_getElem hk];rfl
  have hat2:∀ h,l[pickK c p l.length]'h=oneK c p l:=fun h=>by rw[List.getElem?_eq_getElem h] at hat;exact Option.some.inj hat
  rcases hX with rfl | rfl
  all_goals
    refine LCall.ex_ (md:=[]) Tryz.func98 rfl (by kernel_rfl) (by kernel_rfl) (n:=12) Tryz.ntmps98 (by simp) (by decide) rfl ?_
    simp
    refine CallT.x (x_pick _ b c p l.length (by simp;omega) (by simp[h]) hc hp (by omega) hl2) rfl (fun r1 S1 h1=>?_)
    obtain⟨q1,hG1⟩:=h1
    subst q1
    have S1_n:=hG1.n
    try simp at S1_n
    have S1_gl:=hG1.gl
    try simp at S1_gl
    have S1_md:=hG1.md
    try simp at S1_md
    have S1_nx:=hG1.nx
    try simp at S1_nx
    have S1_rd:=hG1.rd
    simp[S1_n,S1_gl,hk,hat2]
    exact⟨rfl,rfl,rfl,by simp;omega,by simpa using S1_rd,fun x h1 h2=>hG1.old x (by simp;omega) h2,fun x h1=>hG1.T x (by simp;omega), .nil⟩
abbrev bs (l:List UInt8):ByteArray:=⟨⟨l⟩⟩
theorem bs_from (l:List UInt8) (i j:Nat):(bs l).extract i j=bs ((l.take j).drop i):=by
  apply ByteArray.ext
  rw[ByteArray.data_extract]
  apply Array.ext'
  rw[Array.toList_extract]
  simp[List.extract,List.drop_take]
theorem bs_inj {a b:List UInt8}:bs a=bs b↔a=b:=⟨fun h=>by injection h with h;injection h,fun h=>by rw[h]⟩
abbrev blankU (c:UInt8):Bool:=c.toNat == 32 || c.toNat == 44
abbrev letU (c:UInt8):Bool:=letterB c.toNat
abbrev figU (c:UInt8):Bool:=figureB c.toNat
def signsL:List UInt8:=[123,125,40,41,91,93,58,61,33,36,64,124]
abbrev signU (c:UInt8):Bool:=signsL.contains c
def plainU (c:UInt8):Bool:=blankU c || letU c || signU c
def gapL (l:List UInt8):List UInt8:=l.dropWhile blankU
theorem gapL_len (l:List UInt8):(gapL l).length≤l.length:=by
  unfold gapL
  induction l with
  | nil=>simp
  | cons c r ih =>
    rw[List.dropWhile_cons]
    split
    · simp only[List.length_cons];omega
    · exact Nat.le_refl _
theorem gapL_mem {l:List UInt8}{c:UInt8} (h:c∈gapL l):c∈l:=(List.dropWhile_suffix _).subset h
theorem gapL_head {l r:List UInt8}{c:UInt8} (h:gapL l=c::r):blankU c=false:=by
  unfold gapL at h
  induction l with
  | nil=>simp at h
  | cons d l ih =>
    rw[List.dropWhile_cons] at h
    split at h
    · exact ih h
    · rename_i hd
      simp only[List.cons.injEq] at h
      rw[← h.1];simpa using hd
theorem bs_len (l:List UInt8):(bs l).size=l.length:=rfl
theorem bs_tail (c:UInt8) (r:List UInt8) (j:Nat) (hj:r.length+1≤j):(bs (c::r)).extract 1 j=bs r:=by
  rw[bs_from,List.take_of_length_le (by simpa using hj)];rfl
theorem plain_hash {c:UInt8} (h:plainU c=true):¬ ((c.toNat:Int)=35)∧¬ ((c.toNat:Int)=9)∧¬ ((c.toNat:Int)=10)∧¬ ((c.toNat:Int)=13):=by
  have:∀ n:Nat,n∈[35,9,10,13]→c.toNat≠n:=fun n hn e=>by
    have hc:c=UInt8.ofNat n:=by rw[← e];simp
    subst hc
    simp at hn
    rcases hn with rfl | rfl | rfl | rfl<;>revert h<;>decide
  refine⟨?_,?_,?_,?_⟩
  · have:=this 35 (by simp);omega
  · have:=this 9 (by simp);omega
  · have:=this 10 (by simp);omega
  · have:=this 13 (by simp);omega
theorem byteI_bs (l:List UInt8) (i:Nat) (h:i<l.length):byteI (bs l) i=(l[i].toNat:Int):=by
  unfold byteI
  simp[h]
theorem blank_of {c:UInt8} (h:c.toNat=32∨c.toNat=44):blankU c=true:=by
  unfold blankU
  rcases h with h | h<;>rw[h]<;>rfl
set_option maxHeartbeats 2000000 in
theorem p_l3Gap (l:List UInt8) (hp:∀ c∈l,plainU c=true) (hl:l.length≤1048576):PCall Tryz.prog gl 190 [dS (bs l)] (dS (bs (gapL l))):=by
  refine PCall.by_ (md:=[]) Tryz.func190 rfl (by kernel_rfl) (n:=48) Tryz.ntmps190 (by simp) (by decide) rfl ?_
  simp
  refine LoopT.round (fun E S=>∃ (r:List UInt8),(gapL r=gapL l)∧(∀ c∈r,plainU c=true)∧(r.length≤l.length)∧E 0=some (.d (dS (bs r)))) (fun E _=>match E 0 with | some (.d (.v (.string s)))=>s.size | _=>0) ⟨l,rfl,hp,Nat.le_refl _,by simp⟩ ?_
  rintro E S hk ⟨r,hr,hm,hrl,h0⟩
  have hn:S.n=48:=by first | (simpa using hk.n)|(have hh:=hk.n;simp at hh;exact hh)
  have hg:S.gl=gl:=by first | (simpa using hk.gl)|(have hh:=hk.gl;simp at hh;exact hh)
  have hmd:S.md=[]:=by first | (simpa using hk.md)|(have hh:=hk.md;simp at hh;exact hh)
  simp[h0,hn]
  cases r with
  | nil =>
    simp[h0,hn,bs_len]
    exact hr.symm
  | cons c r =>
    have hb0:byteI (bs (c::r)) 0=(c.toNat:Int):=byteI_bs _ 0 (by simp)
    obtain⟨n1,n2,n3,n4⟩:=plain_hash (hm c (by simp))
    have ht:=bs_tail c r (r.length+1) (Nat.le_refl _)
    have hrl2:r.length+1≤l.length:=by simpa using hrl
    have yes:blankU c=true→gapL r=gapL l:=fun h=>by rw[← hr];simp[gapL,h]
    simp[h0,hn,bs_len,hb0]
    refine BrT.dec (fun c1=>?_) (fun c1=>?_)
    · simp[h0,hn,bs_len,ht,c1]
      refine⟨by omega,r,yes (blank_of (.inl (by omega))),fun x hx=>hm x (List.mem_cons_of_mem _ hx),by omega,rfl⟩
    · simp[h0,hn,bs_len,hb0,c1]
      refine BrT.dec (fun c2=>?_) (fun c2=>?_)
      · simp[h0,hn,bs_len,ht,c2]
        exact⟨by omega,r,yes (blank_of (.inr (by omega))),fun x hx=>hm x (List.mem_cons_of_mem _ hx),by omega,rfl⟩
      · simp[h0,hn,bs_len,hb0,n1,n2,n3,n4,c2]
        have no:blankU c=false:=by
          unfold blankU
          simp only[Bool.or_eq_false_iff,beq_eq_false_iff_ne]
          omega
        rw[← hr];simp[gapL,no]
def wordL (l:List UInt8):List UInt8:=l.takeWhile fun c=>letU c || figU c
def oneL:List UInt8→List UInt8
  | []=>[]
  | c::r=>if signU c=true then [c] else wordL (c::r)
abbrev sgn:ByteArray:=⟨#[123,125,40,41,91,93,58,61,33,36,64,124]⟩
theorem p_l3Sign (c:UInt8) (r:List UInt8) (h46:c≠46) (hl:r.length≤1048576):PCall Tryz.prog gl 217 [dS (bs (c::r))] (dS (bs (if signU c=true then [c] else []))):=by
  have hb0:byteI (bs (c::r)) 0=(c.toNat:Int):=byteI_bs _ 0 (by simp)
  have hdot:¬ bs ((c::r).take 3)=⟨#[46,46,46]⟩:=fun e=>h46 (by
    have e2:bs ((c::r).take 3)=bs [46,46,46]:=e
    rw[bs_inj] at e2
    simp only[List.take_succ_cons,List.cons.injEq] at e2
    exact e2.1)
  have hx3:(bs (c::r)).extract 0 3=bs ((c::r).take 3):=by rw[bs_from];rfl
  have hx1:(bs (c::r)).extract 0 1=bs [c]:=by rw[bs_from];rfl
  refine PCall.by_ (md:=[]) Tryz.func217 rfl (by kernel_rfl) (n:=23) Tryz.ntmps217 (by simp) (by decide) rfl ?_
  simp[bs_len]
  refine BrT.dec (fun c3=>?_) (fun c3=>?_)
  all_goals
    simp[bs_len,hx3,h46,c3]
    refine LoopT.round (fun E S=>∃ (i:Nat),(i≤12)∧(∀ j,j<i→signsL[j]?≠some c)∧E 0=some (.d (dS (bs (c::r))))∧E 3=some (.d (dI i))) (upTo 3 12) ⟨0,by simp⟩ ?_
    rintro E S hk ⟨i,hi,hno,h0,h3⟩
    have hn:S.n=23:=by first | (simpa using hk.n)|(have hh:=hk.n;simp[bs_len,hb0,hx3,hdot,hx1,h46] at hh;exact hh)
    have hg:S.gl=gl:=by first | (simpa using hk.gl)|(have hh:=hk.gl;simp[bs_len,hb0,hx3,hdot,hx1,h46] at hh;exact hh)
    have hmd:S.md=[]:=by first | (simpa using hk.md)|(have hh:=hk.md;simp[bs_len,hb0,hx3,hdot,hx1,h46] at hh;exact hh)
    simp[h3,hn]
    have w:=wrap64 (n:=(i:Int)+1) (by omega) (by omega)
    refine BrT.dec (fun ci=>?_) (fun ci=>?_)
    · have hi2:i<12:=by omega
      have hat:byteI sgn i=((signsL.getD i 0).toNat:Int):=rfl
      have hsl:i<signsL.length:=hi2
      simp[bs_len,hb0,h0,h3,hn,hg,ci]
      refine⟨DrawT.mk (by kernel_rfl),?_⟩
      refine BrT.dec (fun ce=>?_) (fun ce=>?_)
      · have hc:signsL[i]?=some c:=by
          rw[hat] at ce
          have e:c=signsL.getD i 0:=UInt8.toNat_inj.1 (by omega)
          rw[e,List.getD_eq_getElem?_getD,List.getElem?_eq_getElem hsl];rfl
        have hm:c∈signsL:=List.mem_of_getElem? hc
        simp[bs_len,hx1,h0,hn,ce,hm]
        omega
      · have hc:signsL[i]?≠some c:=fun e=>ce (by
          rw[hat,List.getD_eq_getElem?_getD,e];rfl)
        simp[h0,h3,hn,w,ce]
        refine⟨⟨i+1,hi2,fun j hj=>?_,rfl⟩,upTo_lt h3 (by simp) hi2⟩
        · rcases Nat.lt_or_ge j i with h | h
          · exact hno j h
          · have:j=i:=by omega
            rw[this];exact hc
    · have hm:¬ c∈signsL:=fun h=>by
        obtain⟨j,hj,e⟩:=List.getElem_of_mem h
        have hj2:j<12:=hj
        exact hno j (by omega) (by rw[List.getElem?_eq_getElem hj,e])
      simp[hn,ci,hm]
theorem wordL_yes {c:UInt8}{r:List UInt8} (h:(letU c || figU c)=true):wordL (c::r)=c::wordL r:=by
  unfold wordL;rw[List.takeWhile_cons,h];rfl
theorem wordL_no {c:UInt8}{r:List UInt8} (h:(letU c || figU c)=false):wordL (c::r)=[]:=by
  unfold wordL;rw[List.takeWhile_cons,h];rfl
set_option maxHeartbeats 2000000 in
theorem p_l1Word (l:List UInt8) (hl:l.length≤1048576):PCall Tryz.prog gl 218 [dS (bs l)] (dS (bs (wordL l))):=by
  refine PCall.by_ (md:=[]) Tryz.func218 rfl (by kernel_rfl) (n:=25) Tryz.ntmps218 (by simp) (by decide) rfl ?_
  simp
  refine LoopT.round (fun E S=>∃ (i:Nat),(i≤l.length)∧(wordL l=l.take i++wordL (l.drop i))∧E 0=some (.d (dS (bs l)))∧E 3=some (.d (dI i))) (upTo 3 l.length) ⟨0,by simp⟩ ?_
  rintro E S hk ⟨i,hi,hp,h0,h3⟩
  have hn:S.n=25:=by first | (simpa using hk.n)|(have hh:=hk.n;simp at hh;exact hh)
  have hg:S.gl=gl:=by first | (simpa using hk.gl)|(have hh:=hk.gl;simp at hh;exact hh)
  have hmd:S.md=[]:=by first | (simpa using hk.md)|(have hh:=hk.md;simp at hh;exact hh)
  simp[h0,h3,hn,hg]
  have hx:(bs l).extract 0 i=bs (l.take i):=by rw[bs_from,List.drop_zero]
  have w:=wrap64 (n:=(i:Int)+1) (by omega) (by omega)
  refine BrT.dec (fun c1=>?_) (fun c1=>?_)
  · have hi2:i<l.length:=by simpa[bs_len] using c1
    have hb:=byteI_bs l i hi2
    have hd:l.drop i=l[i]::l.drop (i+1):=List.drop_eq_getElem_cons hi2
    have ht:l.take (i+1)=l.take i++[l[i]]:=List.take_succ_eq_append_getElem hi2
    generalize l[i]=c at hb hd ht
    have go:(letU c || figU c)=true→wordL l=l.take (i+1)++wordL (l.drop (i+1)):=fun h=>by rw[hp,hd,wordL_yes h,ht];simp
    have no:(letU c || figU c)=false→wordL l=l.take i:=fun h=>by rw[hp,hd,wordL_no h];simp
    simp[h0,h3,hn,bs_len,hb,hi2]
    repeat refine⟨DrawT.mk (by kernel_rfl),?_⟩
    refine CallT.p0 ((p_l1Letter _)) (by first | rfl | (simp;done)|(simp[h0,h3,hn,hg,hmd,bs_len,hx,w,c1,hb,hi2];done)) (by first | rfl | (simp;done)|(simp;rfl)|(simp[h0,h3,hn,hg,hmd,bs_len,hx,w,c1,hb,hi2];done)) ?_
    simp[hn]
    refine BrT.mk (fun c2=>?_) (fun c2=>?_)
    · simp[h0,h3,hn,w,c2]
      exact⟨⟨i+1,hi2,go (by unfold letU;rw[c2];rfl),rfl⟩,upTo_lt h3 (by simp) hi2⟩
    · simp[h0,h3,hn,bs_len,hb,hi2,c2]
      repeat refine⟨DrawT.mk (by kernel_rfl),?_⟩
      refine CallT.p0 ((p_l1Figure _)) (by first | rfl | (simp;done)|(simp[h0,h3,hn,hg,hmd,bs_len,hx,w,c1,hb,hi2,c2];done)) (by first | rfl | (simp;done)|(simp;rfl)|(simp[h0,h3,hn,hg,hmd,bs_len,hx,w,c1,hb,hi2,c2];done)) ?_
      simp[hn]
      refine BrT.mk (fun c3=>?_) (fun c3=>?_)
      · simp[h0,h3,hn,w,c3]
        exact⟨⟨i+1,hi2,go (by unfold letU figU;rw[c2,c3];rfl),rfl⟩,upTo_lt h3 (by simp) hi2⟩
      · simp[h0,h3,hn,bs_len,hx,c3]
        exact⟨by omega,by rw[no (by unfold letU figU;rw[c2,c3];rfl)]⟩
  · have hi3 : i = l.length := by have : ¬ i < l.length := by simpa [bs_len] using c1
                                  omega
    subst hi3
    simp[h0,h3,hn,bs_len,hx]
    rw[hp];simp[wordL]
theorem OpT_addF {P:Program}{S0 S1 S:St}{X:SV}{k l:List ByteArray}{id:Nat}{dst:Option Nat}{T e:TypeId}{by_:Nat}{K:Bool→SV→Eff→Prop} (h:AccN S0 S1 X k) (hn:S1.nx≤S.nx) (hTT:∀ i,i<S1.nx→S.T i=S1.T i) (hT:appOf P T=some (e,1,by_)) (hmd:S.md=[]) (hid:S0.nx≤id) (hid2:id<S.nx) (hb:appBound k.length l.length by_)
    (hK:∀ X' S' E',S.app id E'=S'→AccN S0 S' X' (k++l)→SameB S S'→(∀ i,i<S0.nx→S'.T i=S.T i)→K true X' E'):OpT (evalAppend P S id dst T X (.fl (l.map dS) l.length)) K:=by
  have e:evalAppend P S id dst T X (.fl (l.map dS) l.length)=evalAppend P S id dst T X (.d (namesD l)):=rfl
  rw[e]
  exact OpT_addN h hn hTT hT hmd hid hid2 hb hK
theorem signU_ne {c:UInt8} (h:plainU c=true):c≠46:=by rintro rfl;revert h;decide
theorem bs_nil_iff (l:List UInt8):bs l=⟨#[]⟩↔l=[]:=bs_inj (b:=[])
theorem wordL_len (l:List UInt8):(wordL l).length≤l.length:=(List.takeWhile_prefix _).length_le
theorem oneL_sign {c:UInt8} (r:List UInt8) (h:signU c=true):oneL (c::r)=[c]:=if_pos h
theorem oneL_word {c:UInt8} (r:List UInt8) (h:signU c=false):oneL (c::r)=wordL (c::r):=if_neg (by rw[h];simp)
set_option maxHeartbeats 2000000 in
theorem p_l3One (c:UInt8) (r:List UInt8) (hp:plainU c=true) (hb:blankU c=false) (hl:r.length+1≤1048576):PCall Tryz.prog gl 191 [dS (bs (c::r))] (dS (bs (oneL (c::r)))):=by
  have hb0:byteI (bs (c::r)) 0=(c.toNat:Int):=byteI_bs _ 0 (by simp)
  have hs:=fun gl=>p_l3Sign (gl:=gl) c r (signU_ne hp) (by omega)
  cases hc:signU c with
  | true =>
    rw[hc] at hs
    have ho:oneL (c::r)=[c]:=oneL_sign r hc
    rw[ho]
    have hne:¬ bs [c]=⟨#[]⟩:=by rw[bs_nil_iff];simp
    refine PCall.by_ (md:=[]) Tryz.func191 rfl (by kernel_rfl) (n:=56) Tryz.ntmps191 (by simp) (by decide) rfl ?_
    simp
    repeat refine⟨DrawT.mk (by kernel_rfl),?_⟩
    refine CallT.p0 ((hs _)) (by first | rfl | (simp;done)|(simp[hne];done)) (by first | rfl | (simp;done)|(simp;rfl)|(simp[hne];done)) ?_
    simp[hne]
    repeat refine⟨DrawT.mk (by kernel_rfl),?_⟩
    refine CallT.p0 ((hs _)) (by first | rfl | (simp;done)|(simp[hne];done)) (by first | rfl | (simp;done)|(simp;rfl)|(simp[hne];done)) ?_
    simp
  | false =>
    rw[hc] at hs
    have hlet:letU c=true:=by
      unfold plainU at hp
      rw[hb,hc] at hp
      simpa using hp
    have ho:oneL (c::r)=wordL (c::r):=oneL_word r hc
    have hl2:letterB (c.toNat:Int)=true:=hlet
    rw[ho]
    refine PCall.by_ (md:=[]) Tryz.func191 rfl (by kernel_rfl) (n:=56) Tryz.ntmps191 (by simp) (by decide) rfl ?_
    simp
    repeat refine⟨DrawT.mk (by kernel_rfl),?_⟩
    refine CallT.p0 ((hs _)) (by first | rfl | (simp;done)|(simp[bs_len,hb0,hl2];done)) (by first | rfl | (simp;done)|(simp;rfl)|(simp[bs_len,hb0,hl2];done)) ?_
    simp[bs_len,hb0]
    repeat refine⟨DrawT.mk (by kernel_rfl),?_⟩
    refine CallT.p0 ((p_l1Letter _)) (by first | rfl | (simp;done)|(simp[bs_len,hb0,hl2];done)) (by first | rfl | (simp;done)|(simp;rfl)|(simp[bs_len,hb0,hl2];done)) ?_
    simp[hl2]
    repeat refine⟨DrawT.mk (by kernel_rfl),?_⟩
    refine CallT.p0 ((p_l1Word (c::r) (by simpa using hl))) (by first | rfl | (simp;done)|(simp[bs_len,hb0,hl2];done)) (by first | rfl | (simp;done)|(simp;rfl)|(simp[bs_len,hb0,hl2];done)) ?_
    simp
def wordsG:Nat→List UInt8→List (List UInt8)
  | 0,_=>[]
  | _+1,[]=>[]
  | f+1,c::r=>oneL (c::r)::wordsG f (gapL ((c::r).drop (oneL (c::r)).length))
def wordsL (l:List UInt8):List (List UInt8):=wordsG l.length (gapL l)
theorem oneL_pos (c:UInt8) (r:List UInt8) (hp:plainU c=true) (hb:blankU c=false):0<(oneL (c::r)).length:=by
  cases hc:signU c with
  | true=>rw[oneL_sign r hc];exact Nat.zero_lt_one
  | false =>
    have hlet:letU c=true:=by
      unfold plainU at hp
      rw[hb,hc] at hp
      simpa using hp
    rw[oneL_word r hc,wordL_yes (by rw[hlet];rfl)];exact Nat.zero_lt_succ _
theorem oneL_le (c:UInt8) (r:List UInt8):(oneL (c::r)).length≤r.length+1:=by
  cases hc:signU c with
  | true=>rw[oneL_sign r hc];exact Nat.succ_le_succ (Nat.zero_le _)
  | false=>rw[oneL_word r hc];exact wordL_len (c::r)
set_option maxHeartbeats 4000000 in
theorem p_Words (l:List UInt8) (hp:∀ c∈l,plainU c=true) (hl:l.length≤1500):PCall Tryz.prog gl 169 [dS (bs l)] (.tup [namesD ((wordsL l).map bs),dB true]):=by
  refine PCall.by_ (md:=[]) Tryz.func169 rfl (by kernel_rfl) (n:=32) Tryz.ntmps169 (by simp) (by decide) rfl ?_
  have hl0:¬ (1500:Int)<l.length:=by omega
  simp[bs_len,hl0]
  repeat refine⟨DrawT.mk (by kernel_rfl),?_⟩
  refine CallT.p0 ((p_l3Gap l hp (by omega))) (by first | rfl | (simp;done)|(simp[bs_len,hl0];done)) (by first | rfl | (simp;done)|(simp;rfl)|(simp[bs_len,hl0];done)) ?_
  simp
  refine LoopT.round (fun E S=>∃ (f:Nat) (r:List UInt8) (k:List (List UInt8)) (X:SV),(AccN (startS gl [] 0) S X (k.map bs))∧(wordsL l=k++wordsG f r)∧(r.length≤f)∧(∀ c∈r,plainU c=true)∧(∀ c q,r=c::q→blankU c=false)∧(k.length+r.length≤l.length)∧E 4=some (X)∧E 5=some (.d (dS (bs r)))) (fun E _=>match E 5 with | some (.d (.v (.string s)))=>s.size | _=>0) ⟨l.length,gapL l,[], .fl [] 0,by simp;exact⟨AccN.nil,rfl,gapL_len l,fun c h=>hp c (gapL_mem h),fun c q h=>by have:=gapL_head h;simpa[blankU] using this,gapL_len l⟩⟩ ?_
  rintro E S hk ⟨f,r,k,X,hA,hr,hf,hm,hb,hkl,h4,h5⟩
  have hn:S.n=32:=by first | (simpa using hk.n)|(have hh:=hk.n;simp[bs_len,hl0] at hh;exact hh)
  have hg:S.gl=gl:=by first | (simpa using hk.gl)|(have hh:=hk.gl;simp[bs_len,hl0] at hh;exact hh)
  have hmd:S.md=[]:=by first | (simpa using hk.md)|(have hh:=hk.md;simp[bs_len,hl0] at hh;exact hh)
  simp[bs_len,h5,hn]
  cases r with
  | nil =>
    have hw:wordsL l=k:=by rw[hr];cases f<;>simp[wordsG]
    rw[hw]
    rcases hA with ⟨h0,rfl⟩ | ⟨q,_,_,rfl,_⟩
    · have:k=[]:=by simpa using h0
      subst this
      simp[h4,hn]
    · simp[h4,hn]
  | cons c r =>
    have hf2:r.length+1≤f:=by simpa using hf
    obtain⟨f,rfl⟩:∃ g,f=g+1:=⟨f - 1,by omega⟩
    have hkl2:k.length+(r.length+1)≤l.length:=by simpa using hkl
    have pc:=hm c (by simp)
    have bc:=hb c r rfl
    have op:=oneL_pos c r pc bc
    have ol:=oneL_le c r
    have one:=fun gl=>p_l3One (gl:=gl) c r pc bc (by omega)
    have hw:wordsL l=(k++[oneL (c::r)])++wordsG f (gapL ((c::r).drop (oneL (c::r)).length)):=by rw[hr];simp[wordsG]
    have hmw:∀ x∈(c::r).drop (oneL (c::r)).length,plainU x=true:=fun x hx=>hm x (List.mem_of_mem_drop hx)
    have hdl:((c::r).drop (oneL (c::r)).length).length+(oneL (c::r)).length=r.length+1:=by simp;omega
    have gap:=fun gl=>p_l3Gap (gl:=gl) ((c::r).drop (oneL (c::r)).length) hmw (by omega)
    have hne:¬ bs (oneL (c::r))=⟨#[]⟩:=by rw[bs_nil_iff];intro e;rw[e] at op;simp at op
    have hsl:(bs (c::r)).extract (oneL (c::r)).length (r.length+1)=bs ((c::r).drop (oneL (c::r)).length):=by
      rw[bs_from,List.take_of_length_le (by simp)]
    generalize hO:oneL (c::r)=w at *
    simp[h5,hn]
    repeat refine⟨DrawT.mk (by kernel_rfl),?_⟩
    refine CallT.p0 ((one _)) (by first | rfl | (simp;done)|(simp[bs_len,hl0,h4,h5,hn,hg,hmd,hne,hsl];done)) (by first | rfl | (simp;done)|(simp;rfl)|(simp[bs_len,hl0,h4,h5,hn,hg,hmd,hne,hsl];done)) ?_
    simp[h4,hn,hmd,hne]
    refine OpT_addF (l:=[bs w]) (e:=9) (by_:=16) hA (by first | (simp;done)|(simp;omega)) (fun _ _=>rfl) (by kernel_rfl) (by simp[hmd]) (by simp) (by simp) (by unfold appBound;simp;omega) ?_
    intro X2 S2 E9 hE9 S2_A S2_B S2_T
    rw[hE9]
    have S2_nx:=S2_B.nx
    have S2_n:=S2_B.n
    have S2_gl:=S2_B.gl
    have S2_md:=S2_B.md
    simp at S2_nx S2_n S2_gl S2_md
    simp[bs_len,h5,hn,hsl,S2_nx,S2_n]
    refine⟨by omega,?_⟩
    have gl2:=fun (x:UInt8) (h:x∈gapL ((c::r).drop w.length))=>hmw x (gapL_mem h)
    have gle:=gapL_len ((c::r).drop w.length)
    generalize hq:(c::r).drop w.length=q at *
    repeat refine⟨DrawT.mk (by kernel_rfl),?_⟩
    refine CallT.p0 ((gap _)) (by first | rfl | (simp;done)|(simp[bs_len,hl0,h4,h5,hn,hg,hmd,hne,hsl,S2_nx,S2_n,S2_gl,S2_md];done)) (by first | rfl | (simp;done)|(simp;rfl)|(simp[bs_len,hl0,h4,h5,hn,hg,hmd,hne,hsl,S2_nx,S2_n,S2_gl,S2_md];done)) ?_
    simp[bs_len,hn,S2_n]
    refine⟨⟨f,gapL q,k++[w],X2,?_,by rw[hw],by omega,gl2,fun x y h=>by have:=gapL_head h;simpa[blankU] using this,by simp;omega,rfl,rfl⟩,by omega⟩
    rw[List.map_append]
    exact S2_A.mono (by simp) (fun _ _=>rfl)
def wd (ws:List ByteArray) (i:Nat):ByteArray:=ws.getD i ⟨#[]⟩
abbrev rdC (ws:List ByteArray) (i:Nat) (bad:Bool):List SV:=[.d (namesD ws), .d (dI i), .d (dB bad)]
theorem p_peek (ws:List ByteArray) (i:Nat) (bad:Bool) (hl:ws.length≤1048576) (hi:i≤1048577):PCall Tryz.prog gl 196 [.pp [namesD ws,dI i,dB bad] 0] (dS (wd ws i)):=by
  refine PCall.by_ (md:=[]) Tryz.func196 rfl (by kernel_rfl) (n:=23) Tryz.ntmps196 (by simp) (by decide) rfl ?_
  simp
  refine⟨DrawT.mk (by kernel_rfl),?_⟩
  refine BrT.dec (fun c=>?_) (fun c=>?_)
  · have hi2:i<ws.length:=by omega
    have hw:ws[i]=wd ws i:=by unfold wd;rw[List.getD_eq_getElem?_getD,List.getElem?_eq_getElem hi2];rfl
    simp[c]
    refine⟨DrawT.mk (by kernel_rfl),?_⟩
    simp[hw]
  · have hw:wd ws i=⟨#[]⟩:=by unfold wd;rw[List.getD_eq_getElem?_getD,List.getElem?_eq_none (by omega)];rfl
    simp[c,hw]
theorem rd_frz {B:Nat→Option (List SV)}{R:Nat}{ws:List ByteArray}{i:Nat}{bad:Bool} (h:B R=some (rdC ws i bad)):mapO (frz B 3) [.op R 0]=some [.pp [namesD ws,dI i,dB bad] 0]:=by
  have h1:frz B 3 (.op R 0)=some (.pp [namesD ws,dI i,dB bad] 0):=by
    show (match B R with | some cs=>(mapO (frz B 2) cs).map fun ds=>D.pp ds 0 | none=>none)=_
    rw[h];rfl
  simp[mapO,h1]
theorem l_peek {S:St}{R:Nat}{ws:List ByteArray}{i:Nat}{bad:Bool} (h:S.B R=some (rdC ws i bad)) (hl:ws.length≤1048576) (hi:i≤1048577):LCall Tryz.prog 196 [.op R 0] S (.d (dS (wd ws i))) S :=
  LCall.ofP (p_peek ws i bad hl hi) (rd_frz h)
set_option maxHeartbeats 2000000 in
theorem l_next (S0:St) (R:Nat) (ws:List ByteArray) (i:Nat) (bad:Bool) (hR:R<S0.nx) (h:S0.B R=some (rdC ws i bad)) (hl:ws.length≤1048576) (hi:i≤1048576) :
    ∃ r S',LCall Tryz.prog 192 [.op R 0] S0 r S'∧(r=.d (dS (wd ws i))∧Got S0 S' R (rdC ws (i+1) bad) []):=by
  have w:=wrap64 (n:=(i:Int)+1) (by omega) (by omega)
  refine LCall.ex_ (md:=[]) Tryz.func192 rfl (by kernel_rfl) (by kernel_rfl) (n:=15) Tryz.ntmps192 (by simp) (by decide) rfl ?_
  simp
  refine CallT.l (l_peek (ws:=ws) (i:=i) (bad:=bad) (by simp[h]) hl (by omega)) rfl ?_
  simp[h,w]
  exact⟨rfl,rfl,rfl,(by first | (simp;done)|(simp;omega)),by simp,fun x h1 h2=>by simp[h2],fun x h1=>rfl, .nil⟩
set_option maxHeartbeats 2000000 in
theorem l_must (S0:St) (R:Nat) (ws:List ByteArray) (i:Nat) (bad:Bool) (s:ByteArray) (hR:R<S0.nx) (h:S0.B R=some (rdC ws i bad)) (hl:ws.length≤1048576) (hi:i≤1048576) (hs:wd ws i=s) :
    ∃ r S',LCall Tryz.prog 195 [.op R 0, .d (dS s)] S0 r S'∧Got S0 S' R (rdC ws (i+1) bad) []:=by
  refine LCall.ex_ (md:=[]) Tryz.func195 rfl (by kernel_rfl) (by kernel_rfl) (n:=11) Tryz.ntmps195 (by simp) (by decide) rfl ?_
  simp
  refine CallT.x (l_next _ R ws i bad (by simp;omega) (by simp[h]) hl hi) rfl (fun r1 S1 ⟨e1,hG1⟩=>?_)
  subst e1
  have S1_n:=hG1.n
  try simp at S1_n
  have S1_gl:=hG1.gl
  try simp at S1_gl
  have S1_md:=hG1.md
  try simp at S1_md
  have S1_nx:=hG1.nx
  try simp at S1_nx
  have S1_rd:=hG1.rd
  simp[S1_n,S1_gl,hs]
  exact⟨rfl,rfl,rfl,by simp;omega,S1_rd,fun x h1 h2=>hG1.old x (by simp;omega) h2,fun x h1=>hG1.T x (by simp;omega), .nil⟩
set_option maxHeartbeats 2000000 in
theorem l_name (S0:St) (R:Nat) (ws:List ByteArray) (i:Nat) (bad:Bool) (hR:R<S0.nx) (h:S0.B R=some (rdC ws i bad)) (hl:ws.length≤1048576) (hi:i≤1048576) (hs:nameB (wd ws i)=true) (hz:(wd ws i).size≤1048576) :
    ∃ r S',LCall Tryz.prog 193 [.op R 0] S0 r S'∧(r=.d (dS (wd ws i))∧Got S0 S' R (rdC ws (i+1) bad) []):=by
  refine LCall.ex_ (md:=[]) Tryz.func193 rfl (by kernel_rfl) (by kernel_rfl) (n:=13) Tryz.ntmps193 (by simp) (by decide) rfl ?_
  simp
  refine CallT.x (l_next _ R ws i bad (by simp;omega) (by simp[h]) hl hi) rfl (fun r1 S1 ⟨e1,hG1⟩=>?_)
  subst e1
  have S1_n:=hG1.n
  try simp at S1_n
  have S1_gl:=hG1.gl
  try simp at S1_gl
  have S1_md:=hG1.md
  try simp at S1_md
  have S1_nx:=hG1.nx
  try simp at S1_nx
  have S1_rd:=hG1.rd
  simp[S1_n]
  repeat refine⟨DrawT.mk (by kernel_rfl),?_⟩
  refine CallT.p0 ((p_l1Name (wd ws i) (by omega))) (by first | rfl | (simp;done)|(simp[h,S1_n,S1_gl,S1_md,S1_rd];done)) (by first | rfl | (simp;done)|(simp;rfl)|(simp[h,S1_n,S1_gl,S1_md,S1_rd];done)) ?_
  simp[S1_n]
  simp[S1_n,S1_gl,hs]
  exact⟨rfl,rfl,rfl,by simp;omega,S1_rd,fun x h1 h2=>hG1.old x (by simp;omega) h2,fun x h1=>hG1.T x (by simp;omega), .nil⟩
end Go.Proofs.YtlmpjblmmpddeaaGreat
