/- Ho and what follows it, one behind another. -/
import Derived.Test.YtlmpjblmmpddeaaGreatMg5
import Derived.Test.YtlmpjblmmpddeaaGreatMg4
set_option linter.unusedVariables false
set_option linter.unusedSimpArgs false
set_option maxRecDepth 100000
namespace Go.Proofs.YtlmpjblmmpddeaaGreat
open Go.Sh
variable {gl:Nat→Option D}
abbrev queryS:ByteArray:=⟨#[81,117,101,114,121]⟩
abbrev mutS:ByteArray:=⟨#[77,117,116,97,116,105,111,110]⟩
def rootsB (l:List Def):Bool:=decide (kindL l queryS=1)&&(!(atD l mutS).isSome || decide (kindL l mutS=1))
set_option maxHeartbeats 2000000 in
theorem p_hasRoots (l:List Def):PCall Tryz.prog gl 50 [schD l] (dB (rootsB l)):=by
  have main:∀ r b,lookS Tryz.prog 72 (ksD l) (l.map (SV.d∘Def.d)) mutS true=some (.tu [r, .d (.v (.bool b))])→b=(atD l mutS).isSome→(r.one=true∧r.cells.length=4)→PCall Tryz.prog gl 50 [schD l] (dB (rootsB l)):=fun r b h1 h2 h3=>by
    refine PCall.by_ (md:=[]) Tryz.func50 rfl (by kernel_rfl) (n:=20) Tryz.ntmps50 (by simp) (by decide) rfl ?_
    simp
    refine⟨_,h1,?_⟩
    have hb:rootsB l=(decide (kindL l queryS=1)&&(!b || decide (kindL l mutS=1))):=by rw[h2];rfl
    simp[hb]
    refine⟨h3,?_⟩
    repeat refine⟨DrawT.mk (by kernel_rfl),?_⟩
    refine CallT.p0 (p_isObject l queryS) (by first | rfl | (simp;done)|(simp[hb];done)) (by first | rfl | (simp;done)|(simp;rfl)|(simp[hb];done)) ?_
    simp
    refine BrT.dec (fun g=>?_) (fun g=>?_)
    · simp[g]
      refine BrT.mk (fun g2=>?_) (fun g2=>?_)
      case refine_2=>simp[g2]
      simp[g2]
      repeat refine⟨DrawT.mk (by kernel_rfl),?_⟩
      refine CallT.p0 (p_isObject l mutS) (by first | rfl | (simp;done)|(simp[hb,g,g2];done)) (by first | rfl | (simp;done)|(simp;rfl)|(simp[hb,g,g2];done)) ?_
      simp
    · simp[g]
  cases h:atD l mutS with
  | none=>exact main _ false (look_none h) (by rw[h];rfl) ⟨rfl,rfl⟩
  | some j=>exact main _ true (look_some h) (by rw[h];rfl) ⟨rfl,by simp[dcells_len]⟩
abbrev intS:ByteArray:=⟨#[73,110,116]⟩
abbrev strS:ByteArray:=⟨#[83,116,114,105,110,103]⟩
abbrev boolS:ByteArray:=⟨#[66,111,111,108,101,97,110]⟩
abbrev idS:ByteArray:=⟨#[73,68]⟩
abbrev fnD (f:FuncId) (caps:List D):D:=.fn (.func f) [] caps
def somD (l:List Def) (t:ByteArray):D :=
  if t=intS then fnD 162 [] else if t=strS then fnD 163 []
  else if t=boolS then fnD 164 [] else if t=idS then fnD 165 []
  else if kindL l t=2 then fnD 166 [.pp (defL l t).cells 0]
  else if kindL l t=3 then fnD 188 [.pp (defL l t).cells 0, .pp [schD l] 0]
  else fnD 168 []
def takD (l:List Def):Typ→D
  | .mk t lt b=>fnD 122 [.pp (Typ.mk t lt b).cells 0, .pp [if t=noS then (match lt with | x::_=>fnD 187 [.pp [takD l x] 0] | []=>fnD 168 []) else somD l t] 0]
def tsomD (l:List Def):Typ→D
  | .mk t lt b=>if t=noS then (match lt with | x::_=>fnD 187 [.pp [takD l x] 0] | []=>fnD 168 []) else somD l t
theorem takD_eq (l:List Def) (v:Typ):takD l v=fnD 122 [.pp v.cells 0, .pp [tsomD l v] 0]:=by
  cases v;unfold takD;rfl
theorem som_fn (l:List Def) (t:ByteArray):∃ f caps,somD l t=fnD f caps:=by
  unfold somD
  repeat' split
  all_goals exact⟨_,_,rfl⟩
theorem tsom_fn (l:List Def) (v:Typ):∃ f caps,tsomD l v=fnD f caps:=by
  cases v with
  | mk t lt b =>
    by_cases h:t=noS
    · cases lt with
      | nil=>exact⟨_,_,if_pos h⟩
      | cons x r=>exact⟨_,_,if_pos h⟩
    · obtain⟨f,c,e⟩:=som_fn l t
      exact⟨f,c,(if_neg h).trans e⟩
set_option maxHeartbeats 2000000 in
theorem p_takesList (f:FuncId) (caps:List D):PCall Tryz.prog gl 161 [fnD f caps] (fnD 187 [.pp [fnD f caps] 0]):=by
  refine PCall.by_ (md:=[]) Tryz.func161 rfl (by kernel_rfl) (n:=4) Tryz.ntmps161 (by simp) (by decide) rfl ?_
  simp
set_option maxHeartbeats 2000000 in
theorem p_takes_of (l:List Def) (v:Typ) (h:PCall Tryz.prog gl 121 [schD l,v.d] (tsomD l v)):PCall Tryz.prog gl 64 [schD l,v.d] (takD l v):=by
  rw[takD_eq]
  cases hv:v with
  | mk t lt b =>
  rw[hv] at h
  obtain⟨f,caps,hf⟩:=tsom_fn l (.mk t lt b)
  rw[hf] at h ⊢
  refine PCall.by_ (md:=[]) Tryz.func64 rfl (by kernel_rfl) (n:=10) Tryz.ntmps64 (by simp) (by decide) rfl ?_
  simp[Typ.cells]
  repeat refine⟨DrawT.mk (by kernel_rfl),?_⟩
  refine CallT.p0 (h) (by first | rfl | (simp;done)|(simp[Typ.cells];done)) (by first | rfl | (simp;done)|(simp;rfl)|(simp[Typ.cells];done)) ?_
  simp
set_option maxHeartbeats 2000000 in
theorem p_takesTree (l:List Def) (d:Def):PCall Tryz.prog gl 167 [schD l,d.d] (fnD 188 [.pp d.cells 0, .pp [schD l] 0]):=by
  refine PCall.by_ (md:=[]) Tryz.func167 rfl (by kernel_rfl) (n:=6) Tryz.ntmps167 (by simp) (by decide) rfl ?_
  simp[Def.cells]
theorem takD_fn (l:List Def) (v:Typ):∃ caps,takD l v=fnD 122 caps:=⟨_,takD_eq l v⟩
set_option maxHeartbeats 4000000 in
theorem p_takesSome (l:List Def) (v:Typ) (d:Nat) (hv:typB v d=true):PCall Tryz.prog gl 121 [schD l,v.d] (tsomD l v):=by
  cases d with
  | zero=>simp[typB] at hv
  | succ d =>
  cases hvv:v with
  | mk t lt b =>
  rw[hvv] at hv
  unfold typB at hv
  have ih:∀ x,typB x d=true→PCall Tryz.prog gl 64 [schD l,x.d] (takD l x):=fun x hx=>p_takes_of l x (p_takesSome l x d hx)
  by_cases ht:t=noS
  · subst ht
    rw[if_pos rfl] at hv
    match lt,hv with
    | [x],hv =>
      simp only at hv
      have ih:=ih x hv
      obtain⟨c,hc⟩:=takD_fn l x
      have hr:tsomD l (.mk noS [x] b)=fnD 187 [.pp [fnD 122 c] 0]:=by rw[← hc];unfold tsomD;simp only;exact if_pos trivial
      rw[hr]
      rw[hc] at ih
      cases x with
      | mk t2 l2 b2 =>
      refine PCall.by_ (md:=[]) Tryz.func121 rfl (by kernel_rfl) (n:=39) Tryz.ntmps121 (by simp) (by decide) rfl ?_
      simp[Typ.cells,typsCells]
      repeat refine⟨DrawT.mk (by kernel_rfl),?_⟩
      refine CallT.p0 (ih) (by first | rfl | (simp;done)|(simp[Typ.cells,typsCells];done)) (by first | rfl | (simp;done)|(simp;rfl)|(simp[Typ.cells,typsCells];done)) ?_
      simp
      repeat refine⟨DrawT.mk (by kernel_rfl),?_⟩
      refine CallT.p0 (p_takesList 122 c) (by first | rfl | (simp;done)|(simp[Typ.cells,typsCells];done)) (by first | rfl | (simp;done)|(simp;rfl)|(simp[Typ.cells,typsCells];done)) ?_
      simp
    | [],hv=>simp at hv
    | x::y::r,hv=>simp at hv
  · have hr:tsomD l (.mk t lt b)=somD l t:=if_neg ht
    rw[hr]
    refine PCall.by_ (md:=[]) Tryz.func121 rfl (by kernel_rfl) (n:=39) Tryz.ntmps121 (by simp) (by decide) rfl ?_
    simp[Typ.cells,ht]
    refine BrT.dec (fun c1=>?_) (fun c1=>?_)
    · simp[c1]
      simp[somD]
    simp[c1]
    refine BrT.dec (fun c2=>?_) (fun c2=>?_)
    · simp[c2]
      simp[somD]
    simp[c2]
    refine BrT.dec (fun c3=>?_) (fun c3=>?_)
    · simp[c3]
      simp[somD]
    simp[c3]
    refine BrT.dec (fun c4=>?_) (fun c4=>?_)
    · simp[c4]
      simp[somD]
    have hs:somD l t=if kindL l t=2 then fnD 166 [.pp (defL l t).cells 0]
      else if kindL l t=3 then fnD 188 [.pp (defL l t).cells 0, .pp [schD l] 0]
      else fnD 168 []:=by unfold somD;rw[if_neg c1,if_neg c2,if_neg c3,if_neg c4]
    simp[c4]
    cases hk:atD l t with
    | none =>
      have hk2:kindL l t=0:=by rw[kindL,defL_none hk];rfl
      rw[hk2] at hs
      refine⟨_,look_none hk,?_⟩
      simp
      rw[hs]
      rfl
    | some j =>
      refine⟨_,look_some hk,?_⟩
      have hkl:kindL l t=(defL l t).kind:=rfl
      rw[hkl] at hs
      simp[Def.cells]
      refine BrT.dec (fun k2=>?_) (fun k2=>?_)
      · simp[k2]
        rw[hs,if_pos k2];simp[Def.cells,k2]
      simp[k2]
      refine BrT.dec (fun k3=>?_) (fun k3=>?_)
      · simp[k3]
        have h5:=p_takesTree (gl:=gl) l (defL l t)
        simp only[Def.d,Def.cells,k3] at h5
        repeat refine⟨DrawT.mk (by kernel_rfl),?_⟩
        refine CallT.p0 (h5) (by first | rfl | (simp;done)|(simp[Typ.cells,ht,c1,c2,c3,c4,Def.cells,k2,k3];done)) (by first | rfl | (simp;done)|(simp;rfl)|(simp[Typ.cells,ht,c1,c2,c3,c4,Def.cells,k2,k3];done)) ?_
        simp
        rw[hs,if_neg k2,if_pos k3];simp[Def.cells,k3]
      simp[k3]
      rw[hs,if_neg k2,if_neg k3]
  termination_by d
def fldAt (l:List Fld) (s:ByteArray):Option Fld:=l.find? fun f=>decide (f.name=s)
def zeroFld:Fld:=⟨noS,[], .mk noS [] false⟩
set_option maxHeartbeats 2000000 in
theorem p_fieldOf (l:List Fld) (s:ByteArray) (hl:l.length≤4611686018427387904):PCall Tryz.prog gl 174 [fldsD l,dS s] (.tup [((fldAt l s).getD zeroFld).d,dB (fldAt l s).isSome]):=by
  refine PCall.by_ (md:=[]) Tryz.func174 rfl (by kernel_rfl) (n:=21) Tryz.ntmps174 (by simp) (by decide) rfl ?_
  simp
  refine LoopT.round (fun E S=>∃ (i:Nat),(i≤l.length)∧E 1=some (.d (dS s))∧E 4=some (.op 0 0)∧E 8=some (.d (fldsD l))∧E 9=some (.d (dI l.length))∧E 10=some (.d (dI i))∧S.B 0=some ([.d (dS noS), .fl [] 0, .d (dS noS), .fl [] 0, .d (dB false)])∧(fldAt (l.drop i) s=fldAt l s)∧(1≤S.nx)) (upTo 10 l.length) ⟨0,by simp⟩ ?_
  rintro E S hk ⟨i,hi,h1,h4,h8,h9,h10,hB0,hp,hx⟩
  have hn:S.n=21:=by first | (simpa using hk.n)|(have hh:=hk.n;simp at hh;exact hh)
  have hg:S.gl=gl:=by first | (simpa using hk.gl)|(have hh:=hk.gl;simp at hh;exact hh)
  have hmd:S.md=[]:=by first | (simpa using hk.md)|(have hh:=hk.md;simp at hh;exact hh)
  simp[h9,h10,hn,hg]
  have w:=wrap64 (n:=(i:Int)+1) (by omega) (by omega)
  refine BrT.dec (fun c=>?_) (fun c=>?_)
  · have hi2:i<l.length:=by omega
    have hlen:=flds_len l
    have hfit:i*5+5≤l.length*5:=by omega
    rw[List.drop_eq_getElem_cons hi2] at hp
    have hat:=flds_at l hi2
    generalize l[i]=a at hp hat
    obtain⟨nm,args,ty⟩:=a
    cases ty with
    | mk t lt b =>
    simp only[Fld.cells,Typ.cells] at hat
    simp[h1,h8,h10,hn,hg,c,hlen,hfit,hat]
    refine BrT.dec (fun e=>?_) (fun e=>?_)
    · simp[h4,hB0,hn,e]
      have hf:fldAt l s=some ⟨nm,args, .mk t lt b⟩:=by rw[← hp];unfold fldAt;rw[List.find?_cons_of_pos (by simp[e])]
      rw[hf]
      simp[Fld.cells,Typ.cells,e]
    · have hf:fldAt (l.drop (i+1)) s=fldAt l s:=by rw[← hp];unfold fldAt;rw[List.find?_cons_of_neg (by simp[e])]
      simp[h1,h4,h8,h9,h10,hB0,hn,w,e]
      exact⟨⟨i+1,hi2,by omega,hf⟩,upTo_lt h10 (by simp) hi2⟩
  · rw[List.drop_eq_nil_of_le (by omega)] at hp
    have hf:fldAt l s=none:=hp.symm
    simp[h4,hB0,hn,c]
    rw[hf]
    exact⟨rfl,rfl⟩
set_option maxHeartbeats 4000000 in
theorem p_list1 (k n:Int) (t:ByteArray) (l:List Val) (ns:List ByteArray) (c:List D) (p:Val→Bool) (hl:l.length≤4611686018427387904) (h0:PCall Tryz.prog gl 122 ((Val.mk k n t l ns).d::c) (dB (p (.mk k n t l ns)))) (h:∀ w∈l,PCall Tryz.prog gl 122 (w.d::c) (dB (p w))):PCall Tryz.prog gl 187 [(Val.mk k n t l ns).d, .pp [fnD 122 c] 0] (dB (if k=4 then l.all p else p (.mk k n t l ns))):=by
  refine PCall.by_ (md:=[]) Tryz.func187 rfl (by kernel_rfl) (n:=24) Tryz.ntmps187 (by simp) (by decide) rfl ?_
  simp[Val.cells]
  refine BrT.dec (fun k4=>?_) (fun k4=>?_)
  · simp[k4]
    refine LoopT.round (fun E S=>∃ (i:Nat),(i≤l.length)∧E 1=some (.d (.pp [fnD 122 c] 0))∧E 13=some (.d (valsD l))∧E 14=some (.d (dI l.length))∧E 15=some (.d (dI i))∧(allUp p l i)∧(1≤S.nx)) (upTo 15 l.length) ⟨0,by simp;exact allUp_zero _ _⟩ ?_
    rintro E S hk ⟨i,hi,h1,h13,h14,h15,hp,hx⟩
    have hn:S.n=24:=by first | (simpa using hk.n)|(have hh:=hk.n;simp[Val.cells,k4] at hh;exact hh)
    have hg:S.gl=gl:=by first | (simpa using hk.gl)|(have hh:=hk.gl;simp[Val.cells,k4] at hh;exact hh)
    have hmd:S.md=[]:=by first | (simpa using hk.md)|(have hh:=hk.md;simp[Val.cells,k4] at hh;exact hh)
    simp[h14,h15,hn,hg]
    have w:=wrap64 (n:=(i:Int)+1) (by omega) (by omega)
    refine BrT.dec (fun c2=>?_) (fun c2=>?_)
    · have hi2:i<l.length:=by omega
      have hlen:=valsCells_len l
      have hfit:i*5+5≤l.length*5:=by omega
      have bad:=all_bad (p:=p) hi2
      have good:=all_take (p:=p) hi2 hp
      have hh:=h _ (List.getElem_mem hi2)
      have hat:=valsCells_at l hi2
      generalize l[i]=x at bad good hh hat
      simp[h1,h13,h15,hn,c2,hlen,hfit,hat,cells_len]
      repeat refine⟨DrawT.mk (by kernel_rfl),?_⟩
      refine CallT.p0 (hh) (by first | rfl | (simp;done)|(simp[hg];done)) (by first | rfl | (simp;done)|(simp;rfl)|(simp[Val.cells,k4,h1,h13,h14,h15,hn,hg,hmd,c2,hi2,w,hlen,hfit,hat,cells_len];done)) ?_
      simp[hn]
      refine BrT.mk (fun c3=>?_) (fun c3=>?_)
      case refine_2=>(have hq:=bad c3;simp[hn,c3,hq])
      simp[h1,h13,h14,h15,hn,w,c3]
      exact⟨⟨i+1,hi2,by omega,good c3⟩,upTo_lt h15 (by simp) hi2⟩
    · have hi3:i=l.length:=by omega
      subst hi3
      have hq:l.all p=true:=allUp_all hp
      simp[hn,c2,hq]
  · simp[k4]
    repeat refine⟨DrawT.mk (by kernel_rfl),?_⟩
    refine CallT.p0 (h0) (by first | rfl | (simp;done)|(simp[Val.cells,k4];done)) (by first | rfl | (simp;done)|(simp;rfl)|(simp[Val.cells,k4];done)) ?_
    simp
theorem p_some1 (k n:Int) (t:ByteArray) (l:List Val) (ns:List ByteArray):PCall Tryz.prog gl 162 [(Val.mk k n t l ns).d] (dB (decide (k=2))):=by
  refine PCall.by_ (md:=[]) Tryz.func162 rfl (by kernel_rfl) (n:=6) Tryz.ntmps162 (by simp) (by decide) rfl ?_
  simp[Val.cells]
theorem p_some2 (k n:Int) (t:ByteArray) (l:List Val) (ns:List ByteArray):PCall Tryz.prog gl 163 [(Val.mk k n t l ns).d] (dB (decide (k=3))):=by
  refine PCall.by_ (md:=[]) Tryz.func163 rfl (by kernel_rfl) (n:=6) Tryz.ntmps163 (by simp) (by decide) rfl ?_
  simp[Val.cells]
theorem p_some3 (k n:Int) (t:ByteArray) (l:List Val) (ns:List ByteArray):PCall Tryz.prog gl 164 [(Val.mk k n t l ns).d] (dB (decide (k=1))):=by
  refine PCall.by_ (md:=[]) Tryz.func164 rfl (by kernel_rfl) (n:=6) Tryz.ntmps164 (by simp) (by decide) rfl ?_
  simp[Val.cells]
theorem p_some4 (k n:Int) (t:ByteArray) (l:List Val) (ns:List ByteArray):PCall Tryz.prog gl 165 [(Val.mk k n t l ns).d] (dB (decide (k=3) || decide (k=2))):=by
  refine PCall.by_ (md:=[]) Tryz.func165 rfl (by kernel_rfl) (n:=11) Tryz.ntmps165 (by simp) (by decide) rfl ?_
  simp[Val.cells]
  refine BrT.dec (fun k3=>?_) (fun k3=>?_)
  · simp[k3]
  · simp[k3]
theorem p_never (k n:Int) (t:ByteArray) (l:List Val) (ns:List ByteArray):PCall Tryz.prog gl 168 [(Val.mk k n t l ns).d] (dB false):=by
  refine PCall.by_ (md:=[]) Tryz.func168 rfl (by kernel_rfl) (n:=3) Tryz.ntmps168 (by simp) (by decide) rfl ?_
  simp[Val.cells]
theorem p_some5 (k n:Int) (t:ByteArray) (l:List Val) (ns:List ByteArray) (d:Def) (hw:d.words.length≤4611686018427387904):PCall Tryz.prog gl 166 [(Val.mk k n t l ns).d, .pp d.cells 0] (dB ((decide (k=7) || decide (k=3))&&memB t d.words)):=by
  refine PCall.by_ (md:=[]) Tryz.func166 rfl (by kernel_rfl) (n:=19) Tryz.ntmps166 (by simp) (by decide) rfl ?_
  simp[Val.cells,Def.cells]
  refine BrT.dec (fun k7=>?_) (fun k7=>?_)
  · simp[k7]
    repeat refine⟨DrawT.mk (by kernel_rfl),?_⟩
    refine CallT.p0 (p_Contains d.words t hw) (by first | rfl | (simp;done)|(simp[Val.cells,Def.cells,k7];done)) (by first | rfl | (simp;done)|(simp;rfl)|(simp[Val.cells,Def.cells,k7];done)) ?_
    simp
  · simp[k7]
    refine BrT.dec (fun k3=>?_) (fun k3=>?_)
    · simp[k3]
      repeat refine⟨DrawT.mk (by kernel_rfl),?_⟩
      refine CallT.p0 (p_Contains d.words t hw) (by first | rfl | (simp;done)|(simp[Val.cells,Def.cells,k7,k3];done)) (by first | rfl | (simp;done)|(simp;rfl)|(simp[Val.cells,Def.cells,k7,k3];done)) ?_
      simp
    · simp[k3]
def pairB (flds:List Fld) (p:Typ→Val→Bool) (x:ByteArray×Val):Bool:=match fldAt flds x.1 with | some f=>p f.ty x.2 | none=>false
def isReq:Typ→Bool | .mk _ _ b=>b
def reqB (ns:List ByteArray) (f:Fld):Bool:=!(isReq f.ty && !memB f.name ns)
theorem idx_neg (x:ByteArray) (l:List ByteArray):decide (idxI x l<0) = !memB x l:=by
  rw[← idxI_mem]
  by_cases h:0≤idxI x l
  · rw[decide_eq_true h,decide_eq_false (by omega)];rfl
  · rw[decide_eq_false h,decide_eq_true (by omega)];rfl
theorem p_placeOf (l:List ByteArray) (x:ByteArray) (hl:l.length≤4611686018427387904):PCall Tryz.prog gl 189 [namesD l,dS x] (dI (idxI x l)):=by
  refine PCall.by_ (md:=[]) Tryz.func189 rfl (by kernel_rfl) (n:=8) Tryz.ntmps189 (by simp) (by decide) rfl ?_
  simp
  repeat refine⟨DrawT.mk (by kernel_rfl),?_⟩
  refine CallT.p0 (p_Index l x hl) (by first | rfl | (simp;done)|(simp;done)) (by first | rfl | (simp;done)|(simp;rfl)|(simp;done)) ?_
  simp
set_option maxHeartbeats 4000000 in
theorem p_tree1 (L:List Def) (k n:Int) (t:ByteArray) (l:List Val) (ns:List ByteArray) (d:Def) (p:Typ→Val→Bool) (hf:d.flds.length≤4611686018427387904) (hn:k=5→ns.length≤l.length) (hl:l.length≤4611686018427387904) (h:∀ f∈d.flds,PCall Tryz.prog gl 64 [schD L,f.ty.d] (takD L f.ty)∧∀ w∈l,PCall Tryz.prog gl 122 (w.d::[.pp f.ty.cells 0, .pp [tsomD L f.ty] 0]) (dB (p f.ty w))):PCall Tryz.prog gl 188 [(Val.mk k n t l ns).d, .pp d.cells 0, .pp [schD L] 0] (dB (decide (k=5)&&((ns.zip l).all (pairB d.flds p)&&d.flds.all (reqB ns)))):=by
  refine PCall.by_ (md:=[]) Tryz.func188 rfl (by kernel_rfl) (n:=64) Tryz.ntmps188 (by simp) (by decide) rfl ?_
  simp[Val.cells,Def.cells]
  refine BrT.dec (fun k5=>?_) (fun k5=>?_)
  case refine_2=>simp[k5]
  have hn:=hn k5
  have hnl:ns.length≤4611686018427387904:=by omega
  have hz:(ns.zip l).length=ns.length:=by simp;omega
  simp[k5]
  refine LoopT.round (fun E S=>∃ (i:Nat),(i≤ns.length)∧E 1=some (.d (.pp [dS d.name,dI d.kind,fldsD d.flds,namesD d.words] 0))∧E 2=some (.d (.pp [schD L] 0))∧E 3=some (.op 0 0)∧E 15=some (.d (namesD ns))∧E 16=some (.d (dI ns.length))∧E 17=some (.d (dI i))∧S.B 0=some ([.d (dI k), .d (dI n), .d (dS t), .d (valsD l), .d (namesD ns)])∧(allUp (pairB d.flds p) (ns.zip l) i)∧(1≤S.nx)) (upTo 17 ns.length) ⟨0,by simp[k5];exact allUp_zero _ _⟩ ?_
  rintro E S hk ⟨i,hi,h1,h2,h3,h15,h16,h17,hB0,hp,hx⟩
  have hn:S.n=64:=by first | (simpa using hk.n)|(have hh:=hk.n;simp[Val.cells,Def.cells,k5] at hh;exact hh)
  have hg:S.gl=gl:=by first | (simpa using hk.gl)|(have hh:=hk.gl;simp[Val.cells,Def.cells,k5] at hh;exact hh)
  have hmd:S.md=[]:=by first | (simpa using hk.md)|(have hh:=hk.md;simp[Val.cells,Def.cells,k5] at hh;exact hh)
  simp[k5,h16,h17,hn,hg]
  have w:=wrap64 (n:=(i:Int)+1) (by omega) (by omega)
  refine BrT.dec (fun c2=>?_) (fun c2=>?_)
  · have hi2:i<ns.length:=by omega
    have hi4:i<l.length:=by omega
    have hi3:i<(ns.zip l).length:=by omega
    have hlen:=valsCells_len l
    have hfit:i*5+5≤l.length*5:=by omega
    have bad:=all_bad (p:=pairB d.flds p) hi3
    have good:=all_take (p:=pairB d.flds p) hi3 hp
    have hzi:(ns.zip l)[i]=(ns[i],l[i]):=List.getElem_zip
    rw[hzi] at bad good
    have hat:=valsCells_at l hi4
    have hwm:=List.getElem_mem hi4
    generalize l[i]=x at bad good hat hwm
    have hF:=fun s=>p_fieldOf (gl:=gl) d.flds s hf
    obtain⟨s,hs⟩:∃ s,ns[i]=s:=⟨_,rfl⟩
    rw[hs] at bad good
    cases hfa:fldAt d.flds s with
    | none =>
      have hF:=hF s
      rw[hfa] at hF
      have hq:=bad (by simp[pairB,hfa])
      simp[h1,h15,h17,hn,c2,hs,hq]
      repeat refine⟨DrawT.mk (by kernel_rfl),?_⟩
      refine CallT.p0 (hF) (by first | rfl | (simp;done)|(simp[hg];done)) (by first | rfl | (simp;done)|(simp;rfl)|(simp[Val.cells,Def.cells,k5,h1,h2,h3,h15,h16,h17,hB0,hn,hg,hmd,c2,hi2,w,hlen,hfit,hat,cells_len,hi4,hs,hq];done)) ?_
      simp[hn]
      exact⟨rfl,DrawT.mk (by kernel_rfl)⟩
    | some f =>
      have hF:=hF s
      rw[hfa] at hF
      have hfm:f∈d.flds:=List.mem_of_find?_eq_some hfa
      obtain⟨hT,hU⟩:=h f hfm
      have hU:=hU x hwm
      have hpr:pairB d.flds p (s,x)=p f.ty x:=by simp[pairB,hfa]
      rw[hpr] at bad good
      obtain⟨fn,fa,ft⟩:=f
      cases ft with
      | mk t2 l2 b2 =>
      simp only at hT hU bad good
      rw[takD_eq] at hT
      simp[h1,h15,h17,hn,c2,hs]
      repeat refine⟨DrawT.mk (by kernel_rfl),?_⟩
      refine CallT.p0 (hF) (by first | rfl | (simp;done)|(simp[hg];done)) (by first | rfl | (simp;done)|(simp;rfl)|(simp[Val.cells,Def.cells,k5,h1,h2,h3,h15,h16,h17,hB0,hn,hg,hmd,c2,hi2,w,hlen,hfit,hat,cells_len,hi4,hs,Fld.cells,Typ.cells];done)) ?_
      simp[h2,hn,Fld.cells,Typ.cells]
      refine⟨DrawT.mk (by kernel_rfl),?_⟩
      repeat refine⟨DrawT.mk (by kernel_rfl),?_⟩
      refine CallT.p0 (hT) (by first | rfl | (simp;done)|(simp[hg];done)) (by first | rfl | (simp;done)|(simp;rfl)|(simp[Val.cells,Def.cells,k5,h1,h2,h3,h15,h16,h17,hB0,hn,hg,hmd,c2,hi2,w,hlen,hfit,hat,cells_len,hi4,hs,Fld.cells,Typ.cells];done)) ?_
      simp[k5,h3,hB0,hn,hlen,hfit,hat,hi4,Typ.cells]
      repeat refine⟨DrawT.mk (by kernel_rfl),?_⟩
      refine CallT.p0 (hU) (by first | rfl | (simp;done)|(simp[hg];done)) (by first | rfl | (simp;done)|(simp;rfl)|(simp[Val.cells,Def.cells,k5,h1,h2,h3,h15,h16,h17,hB0,hn,hg,hmd,c2,hi2,w,hlen,hfit,hat,cells_len,hi4,hs,Fld.cells,Typ.cells];done)) ?_
      simp[hn]
      refine BrT.mk (fun c3=>?_) (fun c3=>?_)
      case refine_2=>(have hq:=bad c3;simp[hn,c3,hq])
      simp[k5,h1,h2,h3,h15,h16,h17,hB0,hn,w,c3]
      exact⟨⟨i+1,hi2,by omega,good c3⟩,upTo_lt h17 (by simp) hi2⟩
  · have hi3:i=ns.length:=by omega
    subst hi3
    have hzz:=allUp_all (l:=ns.zip l) (p:=pairB d.flds p) (by rw[hz];exact hp)
    simp[h1,hn,c2]
    refine LoopT.round (fun E S=>∃ (j:Nat),(j≤d.flds.length)∧E 1=some (.d (.pp [dS d.name,dI d.kind,fldsD d.flds,namesD d.words] 0))∧E 3=some (.op 0 0)∧E 46=some (.d (fldsD d.flds))∧E 47=some (.d (dI d.flds.length))∧E 48=some (.d (dI j))∧S.B 0=some ([.d (dI k), .d (dI n), .d (dS t), .d (valsD l), .d (namesD ns)])∧(allUp (reqB ns) d.flds j)∧(1≤S.nx)) (upTo 48 d.flds.length) ⟨0,by simp[k5,h1,h3,hB0];exact allUp_zero _ _⟩ ?_
    rintro E S hk ⟨j,hj,h1,h3,h46,h47,h48,hB0,hp2,hx⟩
    have hn:S.n=64:=by first | (simpa using hk.n)|(have hh:=hk.n;simp[hn] at hh;exact hh)
    have hg:S.gl=gl:=by first | (simpa using hk.gl)|(have hh:=hk.gl;simp[hg] at hh;exact hh)
    have hmd:S.md=[]:=by first | (simpa using hk.md)|(have hh:=hk.md;simp[hmd] at hh;exact hh)
    simp[k5,h47,h48,hn,hg]
    have w2:=wrap64 (n:=(j:Int)+1) (by omega) (by omega)
    refine BrT.dec (fun c4=>?_) (fun c4=>?_)
    · have hj2:j<d.flds.length:=by omega
      have flen:=flds_len d.flds
      have ffit:j*5+5≤d.flds.length*5:=by omega
      have bad2:=all_bad (p:=reqB ns) hj2
      have good2:=all_take (p:=reqB ns) hj2 hp2
      have fat:=flds_at d.flds hj2
      generalize d.flds[j]=f at bad2 good2 fat
      obtain⟨nm,fa,ft⟩:=f
      cases ft with
      | mk t2 l2 b2 =>
      simp only[Fld.cells,Typ.cells] at fat
      simp[h46,h48,hn,c4,flen,ffit,fat]
      refine BrT.mk (fun c5=>?_) (fun c5=>?_)
      · simp[k5,h3,hB0,hn,c5]
        repeat refine⟨DrawT.mk (by kernel_rfl),?_⟩
        refine CallT.p0 (p_placeOf ns nm hnl) (by first | rfl | (simp;done)|(simp[Val.cells,Def.cells,k5,h1,h2,h3,h15,h16,h17,hB0,hn,hg,hmd,c2,h1,h3,h46,h47,h48,hB0,hn,hg,hmd,c4,hj2,w2,flen,ffit,fat,c5];done)) (by first | rfl | (simp;done)|(simp;rfl)|(simp[Val.cells,Def.cells,k5,h1,h2,h3,h15,h16,h17,hB0,hn,hg,hmd,c2,h1,h3,h46,h47,h48,hB0,hn,hg,hmd,c4,hj2,w2,flen,ffit,fat,c5];done)) ?_
        simp[hn]
        have hneg:=idx_neg nm ns
        refine BrT.dec (fun c6=>?_) (fun c6=>?_)
        · rw[decide_eq_true c6] at hneg
          have hq:=bad2 (by simp only[reqB,isReq,c5];revert hneg;cases memB nm ns<;>simp)
          simp[hn,c6,hzz,hq]
        · rw[decide_eq_false c6] at hneg
          have hq:=good2 (by simp only[reqB,isReq,c5];revert hneg;cases memB nm ns<;>simp)
          simp[k5,h1,h3,h46,h47,h48,hB0,hn,w2,c6]
          exact⟨⟨j+1,hj2,by omega,hq⟩,upTo_lt h48 (by simp) hj2⟩
      · have hq:=good2 (by simp only[reqB,isReq,c5];rfl)
        simp[k5,h1,h3,h46,h47,h48,hB0,hn,w2,c5]
        exact⟨⟨j+1,hj2,by omega,hq⟩,upTo_lt h48 (by simp) hj2⟩
    · have hj3:j=d.flds.length:=by omega
      subst hj3
      simp[hn,c4,hzz,allUp_all hp2]
set_option maxHeartbeats 2000000 in
theorem p_takes1 (k n:Int) (x:ByteArray) (vs:List Val) (ns:List ByteArray) (t:Typ) (f:FuncId) (caps:List D) (r:Bool) (h:PCall Tryz.prog gl f ((Val.mk k n x vs ns).d::caps) (dB r)):PCall Tryz.prog gl 122 [(Val.mk k n x vs ns).d, .pp t.cells 0, .pp [fnD f caps] 0] (dB (if k=0 then !isReq t else r)):=by
  cases t with
  | mk t lt b =>
  refine PCall.by_ (md:=[]) Tryz.func122 rfl (by kernel_rfl) (n:=14) Tryz.ntmps122 (by simp) (by decide) rfl ?_
  simp[Val.cells,Typ.cells]
  refine BrT.dec (fun k0=>?_) (fun k0=>?_)
  · simp[k0]
    rfl
  · simp[k0]
    repeat refine⟨DrawT.mk (by kernel_rfl),?_⟩
    refine CallT.p0 (h) (by first | rfl | (simp;done)|(simp[Val.cells,Typ.cells,k0];done)) (by first | rfl | (simp;done)|(simp;rfl)|(simp[Val.cells,Typ.cells,k0];done)) ?_
    simp
inductive TW:Val→Prop
  | mk {k n:Int} {t:ByteArray} {l:List Val} {ns:List ByteArray} (hn:k=5→ns.length≤l.length) (h:∀ v∈l,TW v):TW (.mk k n t l ns)
def fitsB (l:List Def):Typ→Val→Bool
  | .mk t lt b, .mk k n x vs ns =>
    if k=0 then !b
    else if t=noS then (match lt with
      | y::_=>if k=4 then vs.attach.all (fun v=>fitsB l y v.1) else fitsB l y (.mk k n x vs ns)
      | []=>false)
    else if t=intS then decide (k=2) else if t=strS then decide (k=3) else if t=boolS then decide (k=1) else if t=idS then decide (k=3) || decide (k=2)
    else if kindL l t=2 then (decide (k=7) || decide (k=3))&&memB x (defL l t).words
    else if kindL l t=3 then decide (k=5)&&((ns.zip vs).attach.all (fun q=>match fldAt (defL l t).flds q.1.1 with | some f=>fitsB l f.ty q.1.2 | none=>false)&&(defL l t).flds.all (reqB ns))
    else false
termination_by t v=>(SizeOf.sizeOf v,SizeOf.sizeOf t)
decreasing_by
  · have:=List.sizeOf_lt_of_mem v.2
    apply Prod.Lex.left
    simp;omega
  · apply Prod.Lex.right
    simp;omega
  · obtain⟨⟨s,w⟩,hq⟩:=q
    have:=List.sizeOf_lt_of_mem (List.of_mem_zip hq).2
    apply Prod.Lex.left
    simp;omega
theorem attach_all {α:Type} (l:List α) (p:α→Bool):(l.attach.all fun v=>p v.1)=l.all p:=by
  rw[Bool.eq_iff_iff,List.all_eq_true,List.all_eq_true]
  exact⟨fun h v hv=>h ⟨v,hv⟩ (List.mem_attach _ _),fun h v _=>h v.1 v.2⟩
def fitsS (l:List Def) (t:ByteArray) (lt:List Typ) (k n:Int) (x:ByteArray) (vs:List Val) (ns:List ByteArray):Bool :=
  if t=noS then (match lt with
      | y::_=>if k=4 then vs.all (fitsB l y) else fitsB l y (.mk k n x vs ns)
      | []=>false)
    else if t=intS then decide (k=2) else if t=strS then decide (k=3) else if t=boolS then decide (k=1) else if t=idS then decide (k=3) || decide (k=2)
    else if kindL l t=2 then (decide (k=7) || decide (k=3))&&memB x (defL l t).words
    else if kindL l t=3 then decide (k=5)&&((ns.zip vs).all (pairB (defL l t).flds (fitsB l))&&(defL l t).flds.all (reqB ns))
    else false
theorem fitsB_eq (l:List Def) (t:ByteArray) (lt:List Typ) (b:Bool) (k n:Int) (x:ByteArray) (vs:List Val) (ns:List ByteArray):fitsB l (.mk t lt b) (.mk k n x vs ns)=if k=0 then !b else fitsS l t lt k n x vs ns:=by
  unfold fitsB fitsS
  simp only[attach_all vs]
  rw[show ((ns.zip vs).attach.all fun q=>match fldAt (defL l t).flds q.1.1 with | some f=>fitsB l f.ty q.1.2 | none=>false)=(ns.zip vs).all (pairB (defL l t).flds (fitsB l)) from attach_all (ns.zip vs) (pairB (defL l t).flds (fitsB l))]
theorem defL_mem {l:List Def}{t:ByteArray} (h:kindL l t≠0):defL l t∈l:=by
  cases ha:atD l t with
  | none=>exact absurd (by rw[kindL,defL_none ha];rfl) h
  | some j=>rw[defL_some ha];exact List.getElem_mem _
def Tk (gl:Nat→Option D) (D0:D) (v:Val) (r:Bool):Prop:=∃ f caps,D0=fnD f caps∧PCall Tryz.prog gl f (v.d::caps) (dB r)
set_option maxHeartbeats 1000000 in
theorem p_fits (l:List Def) (hd:∀ d∈l,defB d=true∧DefOk d) (v:Val) (t:Typ) (e:Nat) (ht:typB t e=true) (hv:WF v) (hw:TW v):PCall Tryz.prog gl 122 [v.d, .pp t.cells 0, .pp [tsomD l t] 0] (dB (fitsB l t v)):=by
  match t,v,e,ht,hv,hw with
  | t,v,0,ht,_,_=>simp[typB] at ht
  | .mk t lt b, .mk k n x vs ns,e+1,ht, .mk hx hn hl hwf, .mk hz htw =>
  rw[fitsB_eq]
  have h1:Tk gl (tsomD l (.mk t lt b)) (.mk k n x vs ns) (fitsS l t lt k n x vs ns):=by
    unfold typB at ht
    by_cases h0:t=noS
    · rw[if_pos h0] at ht
      match hlt:lt,ht with
      | [],ht=>simp at ht
      | _::_::_,ht=>simp at ht
      | [y],ht =>
        simp only at ht
        have hr:tsomD l (.mk t [y] b)=fnD 187 [.pp [takD l y] 0]:=if_pos h0
        have hs:fitsS l t [y] k n x vs ns=if k=4 then vs.all (fitsB l y) else fitsB l y (.mk k n x vs ns):=if_pos h0
        rw[hr,hs,takD_eq]
        exact⟨_,_,rfl,p_list1 k n x vs ns _ (fitsB l y) hl (p_fits l hd (.mk k n x vs ns) y e ht (.mk hx hn hl hwf) (.mk hz htw)) fun w hm=>p_fits l hd w y e ht (hwf w hm) (htw w hm)⟩
    · have hr:tsomD l (.mk t lt b)=somD l t:=if_neg h0
      rw[hr]
      unfold fitsS somD
      rw[if_neg h0]
      by_cases h1:t=intS
      · rw[if_pos h1,if_pos h1];exact⟨_,_,rfl,p_some1 k n x vs ns⟩
      rw[if_neg h1,if_neg h1]
      by_cases h2:t=strS
      · rw[if_pos h2,if_pos h2];exact⟨_,_,rfl,p_some2 k n x vs ns⟩
      rw[if_neg h2,if_neg h2]
      by_cases h3:t=boolS
      · rw[if_pos h3,if_pos h3];exact⟨_,_,rfl,p_some3 k n x vs ns⟩
      rw[if_neg h3,if_neg h3]
      by_cases h4:t=idS
      · rw[if_pos h4,if_pos h4];exact⟨_,_,rfl,p_some4 k n x vs ns⟩
      rw[if_neg h4,if_neg h4]
      by_cases h5:kindL l t=2
      · rw[if_pos h5,if_pos h5]
        have hm:=defL_mem (l:=l) (t:=t) (by omega)
        exact⟨_,_,rfl,p_some5 k n x vs ns _ (by have:=(hd _ hm).2.2.2.1;omega)⟩
      rw[if_neg h5,if_neg h5]
      by_cases h6:kindL l t=3
      · rw[if_pos h6,if_pos h6]
        have hm:=defL_mem (l:=l) (t:=t) (by omega)
        obtain⟨hb,hok⟩:=hd _ hm
        refine⟨_,_,rfl,p_tree1 l k n x vs ns (defL l t) (fitsB l) hok.2.1.1 hz hl fun f hf=>?_⟩
        have hty:=(fld_of hb f hf).1
        exact⟨p_takes_of l f.ty (p_takesSome l f.ty 3 hty),fun w hm=>p_fits l hd w f.ty 3 hty (hwf w hm) (htw w hm)⟩
      · rw[if_neg h6,if_neg h6]
        exact⟨_,_,rfl,p_never k n x vs ns⟩
  obtain⟨f,caps,hf,hp⟩:=h1
  rw[hf]
  exact p_takes1 k n x vs ns (.mk t lt b) f caps _ hp
  termination_by (SizeOf.sizeOf v,SizeOf.sizeOf t)
  decreasing_by
    · apply Prod.Lex.right
      subst hlt
      simp;omega
    · have:=List.sizeOf_lt_of_mem hm
      apply Prod.Lex.left
      simp;omega
    · have:=List.sizeOf_lt_of_mem hm
      apply Prod.Lex.left
      simp;omega
def argFits (l:List Def) (a:Arg):Bool:=!(a.has && !fitsB l a.ty a.els)
def fldFits (l:List Def) (f:Fld):Bool:=f.args.all (argFits l)
def defFits (l:List Def) (d:Def):Bool:=d.flds.all (fldFits l)
set_option maxHeartbeats 4000000 in
theorem p_elses1 (l:List Def) (d:Def) (hok:DefOk d) (hd:∀ d∈l,defB d=true∧DefOk d) (hb:defB d=true) (htw:∀ a:Arg,argB a=true→a.has=true→TW a.els):PCall Tryz.prog gl 111 [d.d, .pp [schD l] 0] (dB (defFits l d)):=by
  refine PCall.by_ (md:=[]) Tryz.func111 rfl (by kernel_rfl) (n:=36) Tryz.ntmps111 (by simp) (by decide) rfl ?_
  simp[Def.cells]
  have hfl:=hok.2.1.1
  refine LoopT.round (fun E S=>∃ (i:Nat),(i≤d.flds.length)∧E 1=some (.d (.pp [schD l] 0))∧E 9=some (.d (fldsD d.flds))∧E 10=some (.d (dI d.flds.length))∧E 11=some (.d (dI i))∧(allUp (fldFits l) d.flds i)∧(1≤S.nx)) (upTo 11 d.flds.length) ⟨0,by simp;exact allUp_zero _ _⟩ ?_
  rintro E S hk ⟨i,hi,h1,h9,h10,h11,hp,hx⟩
  have hn:S.n=36:=by first | (simpa using hk.n)|(have hh:=hk.n;simp[Def.cells] at hh;exact hh)
  have hg:S.gl=gl:=by first | (simpa using hk.gl)|(have hh:=hk.gl;simp[Def.cells] at hh;exact hh)
  have hmd:S.md=[]:=by first | (simpa using hk.md)|(have hh:=hk.md;simp[Def.cells] at hh;exact hh)
  simp[h10,h11,hn,hg]
  have w:=wrap64 (n:=(i:Int)+1) (by omega) (by omega)
  refine BrT.dec (fun c=>?_) (fun c=>?_)
  · have hi2:i<d.flds.length:=by omega
    have hlen:=flds_len d.flds
    have hfit:i*5+5≤d.flds.length*5:=by omega
    have hN:=fld_of hb _ (List.getElem_mem hi2)
    have hO:=hok.2.1.2 _ (List.getElem_mem hi2)
    have bad:fldFits l d.flds[i]=false→defFits l d=false:=fun h=>all_bad hi2 h
    have good:=all_take (p:=fldFits l) hi2 hp
    have hat:=flds_at d.flds hi2
    generalize hav:d.flds[i]=a at hN hO bad good hat
    have hab:fldFits l a=a.args.all (argFits l):=rfl
    obtain⟨nm,args,ty⟩:=a
    obtain⟨hN1,hN2⟩:=hN
    obtain⟨hal,hao⟩:=hO.2.1
    simp only at hN1 hN2 hal hao hab
    cases ty with
    | mk t lt b =>
    simp only[Fld.cells,Typ.cells] at hat
    simp[h9,h11,hn,c,hlen,hfit,hat]
    have o11:=h11
    refine LoopT.round (fun E S=>∃ (k:Nat),(k≤args.length)∧E 1=some (.d (.pp [schD l] 0))∧E 9=some (.d (fldsD d.flds))∧E 10=some (.d (dI d.flds.length))∧E 11=some (.d (dI i))∧E 16=some (.d (argsD args))∧E 17=some (.d (dI args.length))∧E 18=some (.d (dI k))∧(allUp (argFits l) args k)∧(1≤S.nx)) (upTo 18 args.length) ⟨0,by simp[h1,h9,h10,h11];exact allUp_zero _ _⟩ ?_
    rintro E S hk ⟨k,hkl,h1,h9,h10,h11,h16,h17,h18,hp2,hx⟩
    have hn:S.n=36:=by first | (simpa using hk.n)|(have hh:=hk.n;simp[hn] at hh;exact hh)
    have hg:S.gl=gl:=by first | (simpa using hk.gl)|(have hh:=hk.gl;simp[hg] at hh;exact hh)
    have hmd:S.md=[]:=by first | (simpa using hk.md)|(have hh:=hk.md;simp[hmd] at hh;exact hh)
    simp[h17,h18,hn,hg]
    have w2:=wrap64 (n:=(k:Int)+1) (by omega) (by omega)
    refine BrT.dec (fun c2=>?_) (fun c2=>?_)
    · have hk2:k<args.length:=by omega
      have alen:=args_len args
      have afit:k*10+10≤args.length*10:=by omega
      have bad2:=all_bad (p:=argFits l) hk2
      have good2:=all_take (p:=argFits l) hk2 hp2
      have aat:=args_at args hk2
      have hA:=hN2 _ (List.getElem_mem hk2)
      have hAO:=hao _ (List.getElem_mem hk2)
      generalize args[k]=x at bad2 good2 aat hA hAO
      have hty:=typ_of hA
      have htx:=htw x hA
      have hT:=p_takes_of (gl:=gl) l x.ty (p_takesSome l x.ty 3 hty)
      rw[takD_eq] at hT
      have hF:=fun h=>p_fits (gl:=gl) l hd x.els x.ty 3 hty hAO.2.2 (htx h)
      have hax:argFits l x = !(x.has && !fitsB l x.ty x.els):=rfl
      obtain⟨xn,xt,xh,xe⟩:=x
      simp only at bad2 good2 hT hF hax
      cases xt with
      | mk t2 l2 b2 =>
      cases xe with
      | mk ek en et el ens =>
      simp only[Arg.cells,Typ.cells,Val.cells] at aat
      simp[h16,h18,hn,c2,alen,afit,aat]
      refine⟨DrawT.mk (by kernel_rfl),?_⟩
      refine BrT.mk (fun c3=>?_) (fun c3=>?_)
      · have hF:=hF c3
        simp[h1,hn,c3]
        repeat refine⟨DrawT.mk (by kernel_rfl),?_⟩
        refine CallT.p0 (hT) (by first | rfl | (simp;done)|(simp[hg];done)) (by first | rfl | (simp;done)|(simp;rfl)|(simp[Def.cells,h1,h9,h10,h11,hn,hg,hmd,c,hi2,w,hlen,hfit,hat,h1,h9,h10,h11,h16,h17,h18,hn,hg,hmd,c2,hk2,w2,alen,afit,aat,Typ.cells,Val.cells,c3];done)) ?_
        simp[hn,Typ.cells]
        repeat refine⟨DrawT.mk (by kernel_rfl),?_⟩
        refine CallT.p0 (hF) (by first | rfl | (simp;done)|(simp[hg];done)) (by first | rfl | (simp;done)|(simp;rfl)|(simp[Def.cells,h1,h9,h10,h11,hn,hg,hmd,c,hi2,w,hlen,hfit,hat,h1,h9,h10,h11,h16,h17,h18,hn,hg,hmd,c2,hk2,w2,alen,afit,aat,Typ.cells,Val.cells,c3];done)) ?_
        simp[hn]
        refine BrT.mk (fun c4=>?_) (fun c4=>?_)
        case refine_2=>(have hq:=bad (by rw[hab];exact bad2 (by rw[hax,c3,c4];rfl));simp[hn,c4,hq])
        simp[h1,h9,h10,h11,h16,h17,h18,hn,w2,c4]
        exact⟨⟨k+1,hk2,by omega,good2 (by rw[hax,c3,c4];rfl)⟩,upTo_lt h18 (by simp) hk2⟩
      · simp[h1,h9,h10,h11,h16,h17,h18,hn,w2,c3]
        exact⟨⟨k+1,hk2,by omega,good2 (by rw[hax,c3];rfl)⟩,upTo_lt h18 (by simp) hk2⟩
    · have hk3:k=args.length:=by omega
      subst hk3
      have hq:=good (by rw[hab];exact allUp_all hp2)
      simp[w,h1,h9,h10,h11,hn,c2]
      exact⟨⟨i+1,hi2,by omega,hq⟩,upTo_lt o11 (by simp) hi2⟩
  · have hi3:i=d.flds.length:=by omega
    subst hi3
    have hq:defFits l d=true:=allUp_all hp
    simp[hn,c,hq]
theorem oksB_mem {d:Int}{w:Bool}{v:Val}:∀ {l:List Val},oksB l d w=true→v∈l→okB v d w=true
  | [],_,hm=>by cases hm
  | x::r,h,hm=>by
    rw[oksB,Bool.and_eq_true] at h
    rcases List.mem_cons.1 hm with rfl | hm
    · exact h.1
    · exact oksB_mem h.2 hm
theorem tw_of (v:Val) (d:Int) (w:Bool) (h:okB v d w=true):TW v:=by
  match v,h with
  | .mk k n t l ns,h =>
    rw[okB] at h
    simp only[Bool.and_eq_true] at h
    refine .mk (fun k5=>?_) fun x hx=>tw_of x (d - 1) w (oksB_mem h.2 hx)
    have hp:=h.1.1.1.2
    subst k5
    simp[plainB] at hp
    omega
  termination_by SizeOf.sizeOf v
  decreasing_by
    have:=List.sizeOf_lt_of_mem hx
    simp;omega
set_option maxHeartbeats 2000000 in
theorem p_elsesFit (l:List Def) (hd:∀ d∈l,defB d=true∧DefOk d):PCall Tryz.prog gl 51 [schD l] (dB (l.all (defFits l))):=by
  have htw:∀ a:Arg,argB a=true→a.has=true→TW a.els:=fun a h hh=>by
    unfold argB elseB at h
    rw[hh,if_pos rfl,Bool.and_eq_true] at h
    exact tw_of _ _ _ h.2
  have h:=p_eachDef (gl:=gl) l 111 [.pp [schD l] 0] (defFits l) fun d hm=>p_elses1 l d (hd d hm).2 hd (hd d hm).1 htw
  refine PCall.by_ (md:=[]) Tryz.func51 rfl (by kernel_rfl) (n:=6) Tryz.ntmps51 (by simp) (by decide) rfl ?_
  simp
  refine CallT.l (LCall.ofP (k:=9) h (by simp)) rfl ?_
  simp
def atZ (l:List Def) (s:ByteArray):Int:=match atD l s with | some j=>j | none=>-1
theorem atD_found {l:List Def}{s:ByteArray}{i:Nat} (hi:i<l.length) (h:∀ j (hj:j<l.length),j<i→l[j].name≠s) (he:l[i].name=s):atD l s=some i:=by
  unfold atD
  rw[List.findIdx?_eq_some_iff_getElem]
  exact⟨hi,by simp[he],fun j hj=>by simpa using h j (by omega) hj⟩
theorem atD_none {l:List Def}{s:ByteArray} (h:∀ j (hj:j<l.length),l[j].name≠s):atD l s=none:=by
  unfold atD
  rw[List.findIdx?_eq_none_iff]
  intro d hd
  obtain⟨j,hj,rfl⟩:=List.getElem_of_mem hd
  simpa using h j hj
set_option maxHeartbeats 2000000 in
theorem p_l2At (l:List Def) (s:ByteArray) (hl:l.length≤4611686018427387904):PCall Tryz.prog gl 57 [defsD l,dS s] (dI (atZ l s)):=by
  refine PCall.by_ (md:=[]) Tryz.func57 rfl (by kernel_rfl) (n:=20) Tryz.ntmps57 (by simp) (by decide) rfl ?_
  simp
  refine LoopT.round (fun E S=>∃ (i:Nat),(i≤l.length)∧E 0=some (.d (defsD l))∧E 1=some (.d (dS s))∧E 5=some (.d (dI i))∧(∀ j (hj:j<l.length),j<i→l[j].name≠s)) (upTo 5 l.length) ⟨0,by simp⟩ ?_
  rintro E S hk ⟨i,hi,h0,h1,h5,hp⟩
  have hn:S.n=20:=by first | (simpa using hk.n)|(have hh:=hk.n;simp at hh;exact hh)
  have hg:S.gl=gl:=by first | (simpa using hk.gl)|(have hh:=hk.gl;simp at hh;exact hh)
  have hmd:S.md=[]:=by first | (simpa using hk.md)|(have hh:=hk.md;simp at hh;exact hh)
  simp[h0,h5,hn,hg]
  have w:=wrap64 (n:=(i:Int)+1) (by omega) (by omega)
  refine BrT.dec (fun c=>?_) (fun c=>?_)
  · have hi2:i<l.length:=by omega
    have hlen:=defs_len l
    have hfit:i*4+4≤l.length*4:=by omega
    have hat:=defs_at l hi2
    have hfound:=atD_found hi2 hp
    have hnext:l[i].name≠s→∀ j (hj:j<l.length),j<i+1→l[j].name≠s:=fun hne j hj hji=>by
      by_cases e:j=i
      · subst e;exact hne
      · exact hp j hj (by omega)
    generalize l[i]=d at hat hfound hnext
    obtain⟨nm,kind,flds,words⟩:=d
    simp only[Def.cells] at hat
    simp only at hfound hnext
    have hz0:(defsCells l)[i*4]?=some (dS nm):=by
      have e:(((defsCells l).drop (i*4)).take 4)[0]?=some (dS nm):=by rw[hat];rfl
      rw[List.getElem?_take_of_lt (by omega),List.getElem?_drop] at e
      exact e
    have hg0:=(List.getElem?_eq_some_iff.1 hz0).2
    simp[h0,h1,h5,hn,hg,c,hlen,hg0]
    refine BrT.dec (fun e=>?_) (fun e=>?_)
    · have hz:atZ l s=i:=by unfold atZ;rw[hfound e]
      simp[h5,hn,e,hz]
    · simp[h0,h1,h5,hn,w,e]
      exact⟨⟨i+1,hi2,by omega,hnext e⟩,upTo_lt h5 (by simp) hi2⟩
  · have hno:=atD_none fun j hj=>hp j hj (by omega)
    have hz:atZ l s = -1:=by unfold atZ;rw[hno]
    simp[hn,c,hz]
set_option maxHeartbeats 2000000 in
theorem p_l2Base (v:Typ) (d:Nat) (hv:typB v d=true):PCall Tryz.prog gl 79 [v.d] (dS (baseT v)):=by
  cases hv0:v with
  | mk t0 l0 b0 =>
  refine PCall.by_ (md:=[]) Tryz.func79 rfl (by kernel_rfl) (n:=13) Tryz.ntmps79 (by simp) (by decide) rfl ?_
  simp[Typ.cells]
  refine LoopT.round (fun E S=>∃ (t:ByteArray) (l:List Typ) (b:Bool) (e:Nat),E 1=some (.op 0 0)∧S.B 0=some ([.d (dS t), .d (typsD l), .d (dB b)])∧(baseT (.mk t l b)=baseT (.mk t0 l0 b0))∧(typB (.mk t l b) e=true)∧(1≤S.nx)) (fun E S=>match S.B 0 with | some [_, .d (.ps cs _),_]=>SizeOf.sizeOf cs | _=>0) ⟨t0,l0,b0,d,by simp;rw[← hv0];exact hv⟩ ?_
  rintro E S hk ⟨t,l,b,e,h1,hB0,hb,hd,hx⟩
  have hn:S.n=13:=by first | (simpa using hk.n)|(have hh:=hk.n;simp[Typ.cells] at hh;exact hh)
  have hg:S.gl=gl:=by first | (simpa using hk.gl)|(have hh:=hk.gl;simp[Typ.cells] at hh;exact hh)
  have hmd:S.md=[]:=by first | (simpa using hk.md)|(have hh:=hk.md;simp[Typ.cells] at hh;exact hh)
  simp[h1,hB0,hn]
  cases e with
  | zero=>simp[typB] at hd
  | succ e =>
  unfold typB at hd
  by_cases ht:t=noS
  · rw[if_pos ht] at hd
    match l,hd with
    | [],hd=>simp at hd
    | x::y::r,hd=>simp at hd
    | [x],hd =>
      simp only at hd
      cases hx2:x with
      | mk t2 l2 b2 =>
      subst ht
      rw[hx2,baseT_of] at hb
      rw[hx2] at hd
      subst hx2
      simp[h1,hB0,hn,Typ.cells,typsCells]
      refine⟨⟨t2,l2,?_⟩,by omega⟩
      cases b2 with
      | false=>exact .inl ⟨⟨rfl,⟨rfl,rfl⟩,rfl⟩,hb,e,hd⟩
      | true=>exact .inr ⟨⟨rfl,⟨rfl,rfl⟩,rfl⟩,hb,e,hd⟩
  · rw[if_neg ht,Bool.and_eq_true] at hd
    have hl:l=[]:=List.eq_nil_of_length_eq_zero (by simpa using hd.2)
    subst hl
    rw[baseT_name ht] at hb
    simp[h1,hB0,hn]
    rw[← hb]
theorem p_l2Own (s:ByteArray):PCall Tryz.prog gl 117 [dS s] (dB (groundB s)):=by
  refine PCall.by_ (md:=[]) Tryz.func117 rfl (by kernel_rfl) (n:=17) Tryz.ntmps117 (by simp) (by decide) rfl ?_
  simp
  repeat' first
    | (refine BrT.dec (fun h=>?_) (fun h=>?_)<;>simp[h])
  all_goals (unfold groundB;simp[*])
def kindZ (l:List Def) (s:ByteArray):Int:=if groundB s=true then 0 else if atZ l s<0 then -1 else kindL l s
set_option maxHeartbeats 2000000 in
theorem p_l2Kind (l:List Def) (s:ByteArray) (hl:l.length≤4611686018427387904):PCall Tryz.prog gl 56 [defsD l,dS s] (dI (kindZ l s)):=by
  refine PCall.by_ (md:=[]) Tryz.func56 rfl (by kernel_rfl) (n:=20) Tryz.ntmps56 (by simp) (by decide) rfl ?_
  simp[kindZ]
  repeat refine⟨DrawT.mk (by kernel_rfl),?_⟩
  refine CallT.p0 (p_l2At l s hl) (by first | rfl | (simp;done)|(simp[kindZ];done)) (by first | rfl | (simp;done)|(simp;rfl)|(simp[kindZ];done)) ?_
  simp
  repeat refine⟨DrawT.mk (by kernel_rfl),?_⟩
  refine CallT.p0 (p_l2Own s) (by first | rfl | (simp;done)|(simp[kindZ];done)) (by first | rfl | (simp;done)|(simp;rfl)|(simp[kindZ];done)) ?_
  simp
  refine BrT.mk (fun g=>?_) (fun g=>?_)
  · simp[g]
  simp[g]
  cases ha:atD l s with
  | none =>
    have hz:atZ l s = -1:=by unfold atZ;rw[ha]
    simp[hz]
  | some i =>
    have hz:atZ l s=i:=by unfold atZ;rw[ha]
    have hi2:=atD_lt ha
    have hk:kindL l s=l[i].kind:=by rw[kindL,defL_some ha]
    have hlen:=defs_len l
    have hfit:i*4+4≤l.length*4:=by omega
    have hat:=defs_at l hi2
    generalize l[i]=d at hat hk
    have hz1:(defsCells l)[i*4+1]?=some (dI d.kind):=by
      have e:(((defsCells l).drop (i*4)).take 4)[1]?=some (dI d.kind):=by rw[hat];rfl
      rw[List.getElem?_take_of_lt (by omega),List.getElem?_drop] at e
      exact e
    have hneg:¬ ((i:Int)<0):=by omega
    simp[hi2,hz1,hz,hk,hneg]
def goesB (l:List Def) (s:ByteArray) (inn:Bool):Bool:=decide (kindZ l s=0) || decide (kindZ l s=2) || (inn&&decide (kindZ l s=3)) || (!inn&&(decide (kindZ l s=1) || decide (kindZ l s=4)))
set_option maxHeartbeats 4000000 in
theorem p_l2Goes (l:List Def) (s:ByteArray) (inn:Bool) (hl:l.length≤4611686018427387904):PCall Tryz.prog gl 78 [defsD l,dS s,dB inn] (dB (goesB l s inn)):=by
  have hk:=p_l2Kind (gl:=gl) l s hl
  have hg:goesB l s inn=(decide (kindZ l s=0) || decide (kindZ l s=2) || (inn&&decide (kindZ l s=3)) || (!inn&&(decide (kindZ l s=1) || decide (kindZ l s=4)))):=rfl
  rw[hg]
  generalize kindZ l s=z at hk
  refine PCall.by_ (md:=[]) Tryz.func78 rfl (by kernel_rfl) (n:=36) Tryz.ntmps78 (by simp) (by decide) rfl ?_
  simp
  repeat refine⟨DrawT.mk (by kernel_rfl),?_⟩
  refine CallT.p0 (hk) (by first | rfl | (simp;done)|(simp;done)) (by first | rfl | (simp;done)|(simp;rfl)|(simp;done)) ?_
  simp
  cases inn
  all_goals
    simp
    repeat' first
      | (refine BrT.dec (fun h=>?_) (fun h=>?_)<;>simp[*])
theorem row_sub {α:Type}{cs l:List α}{w b:Nat} (h:(cs.drop b).take w=l) (o k:Nat) (hk:o+k≤w):(cs.drop (b+o)).take k=(l.drop o).take k:=by
  rw[← h,List.drop_take,List.drop_drop,List.take_take]
  congr 1;omega
theorem row_sub0 {α:Type}{cs l:List α}{w b:Nat} (h:(cs.drop b).take w=l) (k:Nat) (hk:k≤w):(cs.drop b).take k=l.take k:=by
  rw[← h,List.take_take]
  congr 1;omega
theorem row_get {α:Type}{cs l:List α}{w b:Nat} (h:(cs.drop b).take w=l) (o:Nat) (ho:o<w) {x:α} (hx:l[o]?=some x):cs[b+o]?=some x:=by
  rw[← hx, ← h,List.getElem?_take_of_lt ho,List.getElem?_drop]
theorem row_get0 {α:Type}{cs l:List α}{w b:Nat} (h:(cs.drop b).take w=l) (ho:0<w) {x:α} (hx:l[0]?=some x):cs[b]?=some x:=row_get h 0 ho hx
theorem zero_ok {v:Val} (h:isZero v=true):okB v 3 true=true:=by
  rw[isZero_iff.1 h];decide
theorem p_l2Type3 (v:Typ) (hv:TLe 4611686018427387904 v):PCall Tryz.prog gl 77 [v.d,dI 3] (dB (typB v 3)):=p_l2Type v hv 2 (by omega)
set_option maxHeartbeats 2000000 in
theorem p_l1Same0 (v:Val) (hv:WF v):PCall Tryz.prog gl 158 [v.d,(Val.mk 0 0 noS [] []).d] (dB (isZero v)):=by
  match v,hv with
  | .mk k n t l ns, .mk ht hn hl _ =>
  have hz:isZero (.mk k n t l ns)=(decide (k=0)&&decide (n=0)&&decide (t=noS)&&decide (l.length=0)&&decide (ns.length=0)):=rfl
  refine PCall.by_ (md:=[]) Tryz.func158 rfl (by kernel_rfl) (n:=81) Tryz.ntmps158 (by simp) (by decide) rfl ?_
  simp[Val.cells,hz]
  refine BrT.dec (fun c1=>?_) (fun c1=>?_)
  case refine_2=>simp[c1]
  simp[c1]
  refine BrT.dec (fun c2=>?_) (fun c2=>?_)
  case refine_2=>simp[c2]
  simp[c2]
  refine BrT.dec (fun c3=>?_) (fun c3=>?_)
  case refine_2=>simp[c3]
  simp[c3]
  refine BrT.dec (fun c4=>?_) (fun c4=>?_)
  case refine_2=>simp[c4]
  simp[c4]
  refine BrT.dec (fun c5=>?_) (fun c5=>?_)
  case refine_2=>simp[c5]
  simp[c5]
  refine LoopT.rounds 1 ?_
  simp[RndT_succ]
  refine LoopT.rounds 1 ?_
  simp[RndT_succ]
theorem memB_take {x:ByteArray}{l:List ByteArray}{i:Nat} (hi:i<l.length) (h:memB x (l.take i)=false) (hn:¬ l[i]=x):memB x (l.take (i+1))=false:=by
  unfold memB at h ⊢
  rw[List.take_succ_eq_append_getElem hi,List.any_append,h]
  simp
  exact fun e=>hn e.symm
theorem memB_at {x:ByteArray}{l:List ByteArray}{i:Nat} (hi:i<l.length) (h:l[i]=x):memB x l=true:=memB_iff.2 (h▸List.getElem_mem hi)
set_option maxHeartbeats 2000000 in
theorem p_l2Has (l:List ByteArray) (s:ByteArray) (hl:l.length≤4611686018427387904):PCall Tryz.prog gl 126 [namesD l,dS s] (dB (memB s l)):=by
  refine PCall.by_ (md:=[]) Tryz.func126 rfl (by kernel_rfl) (n:=18) Tryz.ntmps126 (by simp) (by decide) rfl ?_
  simp
  refine LoopT.round (fun E S=>∃ (i:Nat),(i≤l.length)∧E 0=some (.d (namesD l))∧E 1=some (.d (dS s))∧E 5=some (.d (dI i))∧(memB s (l.take i)=false)) (upTo 5 l.length) ⟨0,by simp;rfl⟩ ?_
  rintro E S hk ⟨i,hi,h0,h1,h5,hp⟩
  have hn:S.n=18:=by first | (simpa using hk.n)|(have hh:=hk.n;simp at hh;exact hh)
  have hg:S.gl=gl:=by first | (simpa using hk.gl)|(have hh:=hk.gl;simp at hh;exact hh)
  have hmd:S.md=[]:=by first | (simpa using hk.md)|(have hh:=hk.md;simp at hh;exact hh)
  simp[h0,h5,hn,hg]
  have w:=wrap64 (n:=(i:Int)+1) (by omega) (by omega)
  refine BrT.dec (fun c=>?_) (fun c=>?_)
  · have hi2:i<l.length:=by omega
    simp[h0,h1,h5,hn,hg,c]
    refine BrT.dec (fun e=>?_) (fun e=>?_)
    · have hq:=memB_at hi2 e
      simp[hn,e,hq]
    · have hq:=memB_take hi2 hp e
      simp[h0,h1,h5,hn,w,e]
      exact⟨⟨i+1,hi2,by omega,hq⟩,upTo_lt h5 (by simp) hi2⟩
  · rw[List.take_of_length_le (by omega)] at hp
    simp[hn,c,hp]
def fldI (l:List Fld) (s:ByteArray):Int:=match l.findIdx? (fun f=>decide (f.name=s)) with | some j=>j | none=>-1
theorem fldI_found {l:List Fld}{s:ByteArray}{i:Nat} (hi:i<l.length) (h:∀ j (hj:j<l.length),j<i→l[j].name≠s) (he:l[i].name=s):fldI l s=i:=by
  have:l.findIdx? (fun f=>decide (f.name=s))=some i:=by
    rw[List.findIdx?_eq_some_iff_getElem]
    exact⟨hi,by simp[he],fun j hj=>by simpa using h j (by omega) hj⟩
  unfold fldI;rw[this]
theorem fldI_none {l:List Fld}{s:ByteArray} (h:∀ j (hj:j<l.length),l[j].name≠s):fldI l s = -1:=by
  have:l.findIdx? (fun f=>decide (f.name=s))=none:=by
    rw[List.findIdx?_eq_none_iff]
    intro d hd
    obtain⟨j,hj,rfl⟩:=List.getElem_of_mem hd
    simpa using h j hj
  unfold fldI;rw[this]
theorem fldI_at (l:List Fld) (s:ByteArray):(fldI l s = -1∧fldAt l s=none)∨∃ (j:Nat) (h:j<l.length),fldI l s=j∧fldAt l s=some l[j]:=by
  unfold fldI fldAt
  cases h:l.findIdx? (fun f=>decide (f.name=s)) with
  | none =>
    refine .inl ⟨rfl,?_⟩
    rw[List.findIdx?_eq_none_iff] at h
    rw[List.find?_eq_none]
    exact fun x hx=>by simpa using h x hx
  | some j =>
    obtain⟨h1,h2,h3⟩:=List.findIdx?_eq_some_iff_getElem.1 h
    refine .inr ⟨j,h1,rfl,?_⟩
    rw[List.find?_eq_some_iff_getElem]
    exact⟨h2,j,h1,rfl,fun k hk=>by simpa using h3 k hk⟩
set_option maxHeartbeats 2000000 in
theorem p_l2Field (d:Def) (s:ByteArray) (hl:d.flds.length≤4611686018427387904):PCall Tryz.prog gl 146 [d.d,dS s] (dI (fldI d.flds s)):=by
  obtain⟨dn,kind,l,words⟩:=d
  simp only at hl
  refine PCall.by_ (md:=[]) Tryz.func146 rfl (by kernel_rfl) (n:=22) Tryz.ntmps146 (by simp) (by decide) rfl ?_
  simp[Def.cells]
  refine LoopT.round (fun E S=>∃ (i:Nat),(i≤l.length)∧E 2=some (.op 0 0)∧E 1=some (.d (dS s))∧E 5=some (.d (dI i))∧S.B 0=some ([.d (dS dn), .d (dI kind), .d (fldsD l), .d (namesD words)])∧(∀ j (hj:j<l.length),j<i→l[j].name≠s)) (upTo 5 l.length) ⟨0,by simp⟩ ?_
  rintro E S hk ⟨i,hi,h2,h1,h5,hB0,hp⟩
  have hn:S.n=22:=by first | (simpa using hk.n)|(have hh:=hk.n;simp[Def.cells] at hh;exact hh)
  have hg:S.gl=gl:=by first | (simpa using hk.gl)|(have hh:=hk.gl;simp[Def.cells] at hh;exact hh)
  have hmd:S.md=[]:=by first | (simpa using hk.md)|(have hh:=hk.md;simp[Def.cells] at hh;exact hh)
  simp[h2,h5,hB0,hn,hg]
  have w:=wrap64 (n:=(i:Int)+1) (by omega) (by omega)
  refine BrT.dec (fun c=>?_) (fun c=>?_)
  · have hi2:i<l.length:=by omega
    have hlen:=flds_len l
    have hfit:i*5+5≤l.length*5:=by omega
    have hat:=flds_at l hi2
    have hfound:=fldI_found hi2 hp
    have hnext:l[i].name≠s→∀ j (hj:j<l.length),j<i+1→l[j].name≠s:=fun hne j hj hji=>by
      by_cases e:j=i
      · subst e;exact hne
      · exact hp j hj (by omega)
    generalize l[i]=a at hat hfound hnext
    obtain⟨nm,args,ty⟩:=a
    simp only at hfound hnext
    have hz0:(fldsCells l)[i*5]?=some (dS nm):=by
      have e:(((fldsCells l).drop (i*5)).take 5)[0]?=some (dS nm):=by rw[hat];rfl
      rw[List.getElem?_take_of_lt (by omega),List.getElem?_drop] at e
      exact e
    have hg0:=(List.getElem?_eq_some_iff.1 hz0).2
    simp[h2,h1,h5,hB0,hn,hg,c,hlen,hg0]
    refine BrT.dec (fun e=>?_) (fun e=>?_)
    · have hz:=hfound e
      simp[h5,hn,e,hz]
    · simp[h2,h1,h5,hB0,hn,w,e]
      exact⟨⟨i+1,hi2,by omega,hnext e⟩,upTo_lt h5 (by simp) hi2⟩
  · have hz:=fldI_none fun j hj=>hp j hj (by omega)
    simp[hn,c,hz]
def treeV (ns:List ByteArray) (l:List Val) (s:ByteArray):Option Val:=((ns.zip l).find? fun p=>decide (p.1=s)).map (·.2)
def zV0:Val:=.mk 0 0 noS [] []
theorem treeV_some (ns:List ByteArray) (l:List Val) (s:ByteArray) (h:ns.length≤l.length):(treeV ns l s).isSome=memB s ns:=by
  unfold treeV
  rw[Option.isSome_map,Bool.eq_iff_iff,List.find?_isSome,memB_iff]
  constructor
  · rintro ⟨p,hp,e⟩
    have:=(List.of_mem_zip (a:=p.1) (b:=p.2) hp).1
    simp at e;rw[← e];exact this
  · intro hm
    obtain⟨j,hj,rfl⟩:=List.getElem_of_mem hm
    exact⟨(ns[j],l[j]'(by omega)),List.mem_iff_getElem.2 ⟨j,by simp;omega,by simp⟩,by simp⟩
theorem treeV_found {ns:List ByteArray}{l:List Val}{s:ByteArray}{i:Nat} (hi:i<ns.length) (hl:i<l.length) (h:∀ j (hj:j<ns.length),j<i→ns[j]≠s) (he:ns[i]=s):treeV ns l s=some l[i]:=by
  unfold treeV
  have:(ns.zip l).find? (fun p=>decide (p.1=s))=some (ns[i],l[i]):=by
    rw[List.find?_eq_some_iff_getElem]
    exact⟨by simp[he],i,by simp;omega,by simp,fun j hj=>by simpa using h j (by omega) hj⟩
  rw[this];rfl
theorem treeV_none {ns:List ByteArray}{l:List Val}{s:ByteArray} (h:∀ j (hj:j<ns.length),ns[j]≠s):treeV ns l s=none:=by
  unfold treeV
  have:(ns.zip l).find? (fun p=>decide (p.1=s))=none:=by
    rw[List.find?_eq_none]
    intro p hp
    obtain⟨j,hj,e⟩:=List.getElem_of_mem (List.of_mem_zip (a:=p.1) (b:=p.2) hp).1
    simpa[← e] using h j hj
  rw[this];rfl
def treeK (k:Int) (ns:List ByteArray) (l:List Val) (s:ByteArray):Option Val:=if k=5 then treeV ns l s else none
set_option maxHeartbeats 2000000 in
theorem p_l1TreeT (k n:Int) (t:ByteArray) (l:List Val) (ns:List ByteArray) (x:ByteArray) (h1:k=5→ns.length≤l.length) (h2:l.length≤4611686018427387904) (h3:ns.length≤4611686018427387904):PCall Tryz.prog gl 176 [(Val.mk k n t l ns).d,dS x] (.tup [((treeK k ns l x).getD zV0).d,dB (treeK k ns l x).isSome]):=by
  by_cases hk:k=5
  · subst hk
    have h1:=h1 rfl
    have hr:treeK 5 ns l x=treeV ns l x:=rfl
    rw[hr]
    refine PCall.by_ (md:=[]) Tryz.func176 rfl (by kernel_rfl) (n:=32) Tryz.ntmps176 (by simp) (by decide) rfl ?_
    simp[Val.cells]
    refine LoopT.round (fun E S=>∃ (i:Nat),(i≤ns.length)∧E 1=some (.d (dS x))∧E 2=some (.op 0 0)∧E 4=some (.op 1 0)∧E 6=some (.d (dI i))∧S.B 0=some ([.d (dI 5), .d (dI n), .d (dS t), .d (valsD l), .d (namesD ns)])∧S.B 1=some ([.d (dI 0), .d (dI 0), .d (dS noS), .fl [] 0, .fl [] 0])∧(∀ j (hj:j<ns.length),j<i→ns[j]≠x)) (upTo 6 ns.length) ⟨0,by simp⟩ ?_
    rintro E S hk ⟨i,hi,h1,h2,h4,h6,hB0,hB1,hp⟩
    have hn:S.n=32:=by first | (simpa using hk.n)|(have hh:=hk.n;simp[Val.cells] at hh;exact hh)
    have hg:S.gl=gl:=by first | (simpa using hk.gl)|(have hh:=hk.gl;simp[Val.cells] at hh;exact hh)
    have hmd:S.md=[]:=by first | (simpa using hk.md)|(have hh:=hk.md;simp[Val.cells] at hh;exact hh)
    simp[h2,h6,hB0,hn,hg]
    have w:=wrap64 (n:=(i:Int)+1) (by omega) (by omega)
    refine BrT.dec (fun c=>?_) (fun c=>?_)
    · have hi2:i<ns.length:=by omega
      have hi3:i<l.length:=by omega
      have hlen:=valsCells_len l
      have hfit:i*5+5≤l.length*5:=by omega
      have hat:=valsCells_at l hi3
      have hfound:=treeV_found hi2 hi3 hp
      generalize l[i]=v at hat hfound
      cases v with
      | mk vk vn vt vl vns =>
      simp only[Val.cells] at hat
      simp[h1,h2,h6,hB0,hn,hg,c]
      refine BrT.dec (fun e=>?_) (fun e=>?_)
      · have h:=hfound e
        simp[Val.cells,h2,h4,h6,hB0,hB1,hn,hi3,hlen,hfit,hat,e,h]
      · simp[h1,h2,h4,h6,hB0,hB1,hn,w,e]
        refine⟨⟨i+1,by omega,by omega,fun j hj hji=>?_⟩,upTo_lt h6 (by simp) hi2⟩
        rcases Nat.lt_or_ge j i with c' | c'
        · exact hp j hj c'
        · have:j=i:=by omega
          subst this;exact e
    · have h:=treeV_none (l:=l) fun j hj=>hp j hj (by omega)
      simp[h4,hB1,hn,c,h]
      rfl
  · have hr:treeK k ns l x=none:=if_neg hk
    rw[hr]
    refine PCall.by_ (md:=[]) Tryz.func176 rfl (by kernel_rfl) (n:=32) Tryz.ntmps176 (by simp) (by decide) rfl ?_
    simp[Val.cells]
    refine LoopT.rounds 1 ?_
    simp[RndT_succ]
    by_cases hn0:ns=[]
    · subst hn0
      simp
      rfl
    · have hn1:0<ns.length:=List.length_pos_iff.2 hn0
      simp[hn1,hk]
      rfl
theorem arg_eq (a:Arg):argB a=(typB a.ty 3&&okB a.els 3 true&&(a.has || isZero a.els)):=by
  have:argB a=(typB a.ty 3&&elseB a.has a.els):=rfl
  rw[this]
  unfold elseB
  cases a.has with
  | true=>simp
  | false =>
    cases hz:isZero a.els with
    | true=>simp[zero_ok hz]
    | false=>simp
set_option maxHeartbeats 4000000 in
theorem p_l2Args (l:List Arg) (hl:l.length≤1048576) (hok:∀ a∈l,ArgOk a):PCall Tryz.prog gl 115 [argsD l] (dB (argsB l)):=by
  refine PCall.by_ (md:=[]) Tryz.func115 rfl (by kernel_rfl) (n:=61) Tryz.ntmps115 (by simp) (by decide) rfl ?_
  simp
  refine LoopT.round (fun E S=>∃ (i:Nat) (X:SV),(i≤l.length)∧E 0=some (.d (argsD l))∧E 3=some (X)∧E 4=some (.d (dI i))∧(AccD 1 S X (accN Arg.name l i) i)∧(allUp argB l i)) (upTo 4 l.length) ⟨0, .fl [] 0,by simp;exact⟨AccD.nil,allUp_zero _ _⟩⟩ ?_
  rintro E S hk ⟨i,X,hi,h0,h3,h4,hA,hp⟩
  have hn:S.n=61:=by first | (simpa using hk.n)|(have hh:=hk.n;simp at hh;exact hh)
  have hg:S.gl=gl:=by first | (simpa using hk.gl)|(have hh:=hk.gl;simp at hh;exact hh)
  have hmd:S.md=[]:=by first | (simpa using hk.md)|(have hh:=hk.md;simp at hh;exact hh)
  simp[h0,h4,hn,hg]
  have w:=wrap64 (n:=(i:Int)+1) (by omega) (by omega)
  refine BrT.dec (fun c=>?_) (fun c=>?_)
  · have hi2:i<l.length:=by omega
    have hlen:=args_len l
    have hfit:i*10+10≤l.length*10:=by omega
    have hN:=hok _ (List.getElem_mem hi2)
    have bad0:=all_bad (p:=argB) hi2
    have bad:argB l[i]=false→argsB l=false:=fun h=>by simp[argsB,bad0 h]
    have good:=all_take (p:=argB) hi2 hp
    have hat:=args_at l hi2
    have hcl:=accN_len Arg.name l hi
    obtain⟨x,hx⟩:∃ x,l[i].name=x:=⟨_,rfl⟩
    have hsn:=fun S' q h1 h2=>AccD.snoc (f:=Arg.name) (l:=l) (S:=S) (S':=S') (i:=i) (q:=q) hi2 h1 h2 hx.symm
    generalize hav:l[i]=a at hN bad good hat hx
    have hT:=p_l2Type3 (gl:=gl) a.ty hN.2.1
    have hE:=p_l1Ok (gl:=gl) a.els hN.2.2 3 true (by omega) (by omega)
    have hZ:=p_l1Same0 (gl:=gl) a.els hN.2.2
    have hab:=arg_eq a
    obtain⟨nm,ty,has,els⟩:=a
    cases ty with
    | mk t lt b =>
    cases els with
    | mk k n t2 l2 ns =>
    simp only at hab hx
    subst hx
    simp only[Arg.cells,Typ.cells,Val.cells,List.cons_append,List.nil_append] at hat
    have hat_0:=row_get0 hat (by decide) rfl
    have hat_0'':=(List.getElem?_eq_some_iff.1 hat_0).2
    have hat_0':i*10<_:=Nat.lt_of_lt_of_le (by omega) hfit
    have hat_1_3:=row_sub hat 1 3 (by decide)
    have hat_1_3':i*10+1+3≤_:=Nat.le_trans (by omega) hfit
    have hat_4:=row_get hat 4 (by decide) rfl
    have hat_4'':=(List.getElem?_eq_some_iff.1 hat_4).2
    have hat_4':i*10+4<_:=Nat.lt_of_lt_of_le (by omega) hfit
    have hat_5_5:=row_sub hat 5 5 (by decide)
    have hat_5_5':i*10+5+5≤_:=Nat.le_trans (by omega) hfit
    rcases hA with ⟨hi0,hcs,rfl⟩ | ⟨hpos,q,hq0,rfl,hT0⟩
    case' inl=>simp[h0,h3,h4,hn,hmd,c,hat_0',hat_0'',hat_1_3,hat_1_3',hlen]
    case' inr=>simp[h0,h3,h4,hn,hmd,c,hat_0',hat_0'',hat_1_3,hat_1_3',hlen,hT0,hcl]
    all_goals
      refine⟨by unfold appBound;omega,?_⟩
      repeat refine⟨DrawT.mk (by kernel_rfl),?_⟩
      refine CallT.p0 (hT) (by first | rfl | (simp;done)|(simp[hg];done)) (by first | rfl | (simp;done)|(simp;rfl)|(simp[h0,h3,h4,hn,hg,hmd,c,hat_0,hat_0',hat_0'',hat_1_3,hat_1_3',hat_4,hat_4',hat_4'',hat_5_5,hat_5_5',hi2,w,hlen,hfit,hat];done)) ?_
      simp[hn]
      refine BrT.mk (fun c1=>?_) (fun c1=>?_)
      case refine_2=>(have hq:=bad (by rw[hab,c1];rfl);simp[hn,c1,hq])
      simp[h0,h4,hn,c,hat_5_5,hat_5_5',hlen,c1]
      repeat refine⟨DrawT.mk (by kernel_rfl),?_⟩
      refine CallT.p0 (hE) (by first | rfl | (simp;done)|(simp[hg];done)) (by first | rfl | (simp;done)|(simp;rfl)|(simp[h0,h3,h4,hn,hg,hmd,c,hat_0,hat_0',hat_0'',hat_1_3,hat_1_3',hat_4,hat_4',hat_4'',hat_5_5,hat_5_5',hi2,w,hlen,hfit,hat,c1];done)) ?_
      simp[hn]
      refine BrT.mk (fun c2=>?_) (fun c2=>?_)
      case refine_2=>(have hq:=bad (by rw[hab,c2];simp);simp[hn,c2,hq])
      simp[h0,h4,hn,c,hat_4',hat_4'',hlen,c2]
      refine BrT.mk (fun c3=>?_) (fun c3=>?_)
      case' refine_2 =>
        simp[h0,h4,hn,c,hat_5_5,hat_5_5',hlen,c3]
        repeat refine⟨DrawT.mk (by kernel_rfl),?_⟩
        refine CallT.p0 (hZ) (by first | rfl | (simp;done)|(simp[hg];done)) (by first | rfl | (simp;done)|(simp;rfl)|(simp[h0,h3,h4,hn,hg,hmd,c,hat_0,hat_0',hat_0'',hat_1_3,hat_1_3',hat_4,hat_4',hat_4'',hat_5_5,hat_5_5',hi2,w,hlen,hfit,hat,c1,c2,c3];done)) ?_
        simp[hn]
        refine BrT.mk (fun c4=>?_) (fun c4=>?_)
        case refine_2=>(have hq:=bad (by rw[hab,c3,c4];simp);simp[hn,c4,hq])
        simp[h0,h4,hn,w,c4]
      case' refine_1=>simp[h0,h4,hn,w,c3]
      all_goals
        have hp2:allUp argB l (i+1):=good (by rw[hab,c1,c2];simp[*])
        first
        | exact⟨⟨i+1,hi2,by omega,by subst hi0;exact hsn _ _ (by simp) (by simp),hp2⟩,upTo_lt h4 (by simp) hi2⟩
        | exact⟨⟨i+1,hi2,by omega,hsn _ _ (by simp;omega) (by simp),hp2⟩,upTo_lt h4 (by simp) hi2⟩
  · have hi3:i=l.length:=by omega
    subst hi3
    have hnm:NamesOk (anames l):=⟨by simp;omega,fun s hs=>by
      obtain⟨a,ha,rfl⟩:=List.mem_map.1 hs
      exact (hok a ha).1⟩
    have hX:=hA.names
    have hp:=allUp_all hp
    simp[h3,hn,c]
    refine CallT.p (p_l1Once (anames l) hnm) (by first | rfl | simp[hg]) (by show (match X.toD,some [] with | some x,some r=>some (x::r) | _,_=>none)=_;rw[hX]) ?_
    simp[hn]
    have hq:argsB l=(decide (l.length≤4)&&onceB (anames l)):=by simp[argsB,hp]
    have e:decide ((l.length:Int)≤4)=decide (l.length≤4):=by rw[decide_eq_decide];omega
    refine BrT.mk (fun c1=>?_) (fun c1=>?_)
    case refine_2=>simp[hn,c1,hq]
    simp[h0,hn,c1,hq,e]
theorem fld_ok {f:Fld} (h:FldSm f):FldOk f:=⟨by have:=h.1;omega,⟨by have:=h.2.1.1;omega,fun a ha=>arg_ok (h.2.1.2 a ha)⟩,h.2.2.big⟩
theorem def_ok {d:Def} (h:DefSm d):DefOk d:=⟨by have:=h.1;omega,⟨by have:=h.2.1.1;omega,fun a ha=>fld_ok (h.2.1.2 a ha)⟩,by have:=h.2.2.1;omega,fun s hs=>by have:=h.2.2.2 s hs;omega⟩
def restB (d:Def):Bool:=if d.kind=1∨d.kind=3 then decide (1≤d.flds.length)&&decide (d.flds.length≤8)&&decide (d.words.length=0) else if d.kind=2∨d.kind=4 then decide (d.flds.length=0)&&(decide (1≤d.words.length)&&decide (d.words.length≤8)) else false
def formD (d:Def):Bool:=d.flds.all (fldB (decide (d.kind=3)))&&(nameB d.name&&(!groundB d.name&&(onceB (fnames d.flds)&&(onceB d.words&&restB d))))
theorem once_nil:onceB []=true:=rfl
theorem defForm_eq (d:Def):formD d=defB d:=by
  unfold formD defB restB fldsB
  by_cases h1:d.kind=1∨d.kind=3
  · rw[if_pos h1,if_pos h1]
    by_cases hw:d.words.length=0
    · have:d.words=[]:=List.eq_nil_of_length_eq_zero hw
      rw[this,once_nil]
      cases d.flds.all (fldB (decide (d.kind=3)))<;>cases nameB d.name<;>cases groundB d.name<;>cases onceB (fnames d.flds)<;>simp
    · rw[decide_eq_false hw]
      simp
  · rw[if_neg h1,if_neg h1]
    by_cases h2:d.kind=2∨d.kind=4
    · rw[if_pos h2,if_pos h2]
      by_cases hw:d.flds.length=0
      · have:d.flds=[]:=List.eq_nil_of_length_eq_zero hw
        rw[this]
        have e:onceB (fnames [])=true:=rfl
        rw[e]
        cases nameB d.name<;>cases groundB d.name<;>cases onceB d.words<;>simp
      · rw[decide_eq_false hw]
        simp
    · rw[if_neg h2,if_neg h2]
      simp
set_option maxHeartbeats 4000000 in
theorem p_l2FormD (d:Def) (hd:DefSm d):PCall Tryz.prog gl 53 [d.d] (dB (formD d)):=by
  have hok:=def_ok hd
  have hfd:formD d=(d.flds.all (fldB (decide (d.kind=3)))&&(nameB d.name&&(!groundB d.name&&(onceB (fnames d.flds)&&(onceB d.words&&restB d))))):=rfl
  have hrb:restB d=if d.kind=1∨d.kind=3 then decide (1≤d.flds.length)&&decide (d.flds.length≤8)&&decide (d.words.length=0) else if d.kind=2∨d.kind=4 then decide (d.flds.length=0)&&(decide (1≤d.words.length)&&decide (d.words.length≤8)) else false:=rfl
  obtain⟨dn,kind,l,words⟩:=d
  simp only at hfd hrb
  generalize formD _=z at hfd
  generalize restB _=zr at hfd hrb
  obtain⟨hdn,⟨hl,hok2⟩,hwn⟩:=hok
  obtain⟨_,⟨hls,hsm⟩,_⟩:=hd
  simp only at hdn hl hok2 hwn hls hsm
  refine PCall.by_ (md:=[]) Tryz.func53 rfl (by kernel_rfl) (n:=103) Tryz.ntmps53 (by simp) (by decide) rfl ?_
  simp[Def.cells]
  refine LoopT.round (fun E S=>∃ (i:Nat) (X:SV),(i≤l.length)∧E 1=some (.op 0 0)∧E 3=some (X)∧E 4=some (.d (dI i))∧S.B 0=some ([.d (dS dn), .d (dI kind), .d (fldsD l), .d (namesD words)])∧(AccD 1 S X (accN Fld.name l i) i)∧(allUp (fldB (decide (kind=3))) l i)∧(1≤S.nx)) (upTo 4 l.length) ⟨0, .fl [] 0,by simp;exact⟨AccD.nil,allUp_zero _ _⟩⟩ ?_
  rintro E S hk ⟨i,X,hi,h1,h3,h4,hB0,hA,hp,hx⟩
  have hn:S.n=103:=by first | (simpa using hk.n)|(have hh:=hk.n;simp[Def.cells] at hh;exact hh)
  have hg:S.gl=gl:=by first | (simpa using hk.gl)|(have hh:=hk.gl;simp[Def.cells] at hh;exact hh)
  have hmd:S.md=[]:=by first | (simpa using hk.md)|(have hh:=hk.md;simp[Def.cells] at hh;exact hh)
  simp[h1,h4,hB0,hn,hg]
  have w:=wrap64 (n:=(i:Int)+1) (by omega) (by omega)
  refine BrT.dec (fun c=>?_) (fun c=>?_)
  · have hi2:i<l.length:=by omega
    have hlen:=flds_len l
    have hfit:i*5+5≤l.length*5:=by omega
    have hN:=hok2 _ (List.getElem_mem hi2)
    have hS:=hsm _ (List.getElem_mem hi2)
    have bad:fldB (decide (kind=3)) l[i]=false→z=false:=fun h=>by rw[hfd,all_bad hi2 h];rfl
    have good:=all_take (p:=fldB (decide (kind=3))) hi2 hp
    have hat:=flds_at l hi2
    have hcl:=accN_len Fld.name l hi
    obtain⟨x,hx1⟩:∃ x,l[i].name=x:=⟨_,rfl⟩
    have hsn:=fun S' q h1 h2=>AccD.snoc (f:=Fld.name) (l:=l) (S:=S) (S':=S') (i:=i) (q:=q) hi2 h1 h2 hx1.symm
    generalize hav:l[i]=a at hN hS bad good hat hx1
    have hT:=p_l2Type3 (gl:=gl) a.ty hN.2.2
    have hE:=p_l2Args (gl:=gl) a.args hS.2.1.1 hN.2.1.2
    have hab:fldB (decide (kind=3)) a=(typB a.ty 3&&argsB a.args && !(decide (kind=3)&&decide (0<a.args.length))):=rfl
    obtain⟨nm,args,ty⟩:=a
    cases ty with
    | mk t lt b =>
    simp only at hab hx1
    subst hx1
    simp only[Fld.cells,Typ.cells] at hat
    have hat_0:=row_get0 hat (by decide) rfl
    have hat_0'':=(List.getElem?_eq_some_iff.1 hat_0).2
    have hat_0':i*5<_:=Nat.lt_of_lt_of_le (by omega) hfit
    have hat_1:=row_get hat 1 (by decide) rfl
    have hat_1'':=(List.getElem?_eq_some_iff.1 hat_1).2
    have hat_1':i*5+1<_:=Nat.lt_of_lt_of_le (by omega) hfit
    have hat_2_3:=row_sub hat 2 3 (by decide)
    have hat_2_3':i*5+2+3≤_:=Nat.le_trans (by omega) hfit
    rcases hA with ⟨hi0,hcs,rfl⟩ | ⟨hpos,q,hq0,rfl,hT0⟩
    case' inl=>simp[h1,h3,h4,hB0,hn,hmd,c,hat_0',hat_0'',hat_2_3,hat_2_3',hlen]
    case' inr=>simp[h1,h3,h4,hB0,hn,hmd,c,hat_0',hat_0'',hat_2_3,hat_2_3',hlen,hT0,hcl]
    all_goals
      refine⟨by unfold appBound;omega,?_⟩
      repeat refine⟨DrawT.mk (by kernel_rfl),?_⟩
      refine CallT.p0 (hT) (by first | rfl | (simp;done)|(simp[hg];done)) (by first | rfl | (simp;done)|(simp;rfl)|(simp[Def.cells,h1,h3,h4,hB0,hn,hg,hmd,c,hat_0,hat_0',hat_0'',hat_1,hat_1',hat_1'',hat_2_3,hat_2_3',hi2,w,hlen,hfit,hat];done)) ?_
      simp[hn]
      refine BrT.mk (fun c1=>?_) (fun c1=>?_)
      case refine_2=>(have hq:=bad (by rw[hab,c1];rfl);simp[hn,c1,hq])
      simp[h1,h4,hB0,hn,c,hat_1',hat_1'',hlen,c1]
      repeat refine⟨DrawT.mk (by kernel_rfl),?_⟩
      refine CallT.p0 (hE) (by first | rfl | (simp;done)|(simp[hg];done)) (by first | rfl | (simp;done)|(simp;rfl)|(simp[Def.cells,h1,h3,h4,hB0,hn,hg,hmd,c,hat_0,hat_0',hat_0'',hat_1,hat_1',hat_1'',hat_2_3,hat_2_3',hi2,w,hlen,hfit,hat,c1];done)) ?_
      simp[hn]
      refine BrT.mk (fun c2=>?_) (fun c2=>?_)
      case refine_2=>(have hq:=bad (by rw[hab,c2];simp);simp[hn,c2,hq])
      simp[h1,hB0,hn,c2]
      refine BrT.dec (fun c3=>?_) (fun c3=>?_)
      case' refine_1 =>
        simp[h1,h4,hB0,hn,c,hat_1',hat_1'',hlen,c3]
        refine BrT.dec (fun c4=>?_) (fun c4=>?_)
        case refine_1=>(have hq:=bad (by rw[hab,c3];simp[c1,c2];omega);simp[hn,c4,hq])
        simp[h1,h4,hB0,hn,w,c3,c4]
      case' refine_2=>simp[h1,h4,hB0,hn,w,c3]
      all_goals
        have hp2:allUp (fldB (decide (kind=3))) l (i+1):=good (by rw[hab,c1,c2];simp[*]<;>omega)
        first
        | exact⟨⟨i+1,hi2,by omega,by subst hi0;exact hsn _ _ (by simp) (by simp),by simpa[c3] using hp2⟩,upTo_lt h4 (by simp) hi2⟩
        | exact⟨⟨i+1,hi2,by omega,hsn _ _ (by simp;omega) (by simp),by simpa[c3] using hp2⟩,upTo_lt h4 (by simp) hi2⟩
  · have hi3:i=l.length:=by omega
    subst hi3
    have hnm:NamesOk (fnames l):=⟨by simp;omega,fun s hs=>by
      obtain⟨a,ha,rfl⟩:=List.mem_map.1 hs
      exact (hok2 a ha).1⟩
    have hX:=hA.names
    have hp:=allUp_all hp
    rw[hp,Bool.true_and] at hfd
    simp[h1,hB0,hn,c]
    repeat refine⟨DrawT.mk (by kernel_rfl),?_⟩
    refine CallT.p0 (p_l1Name dn hdn) (by first | rfl | (simp;done)|(simp[Def.cells,h1,h3,h4,hB0,hn,hg,hmd,c,hX];done)) (by first | rfl | (simp;done)|(simp;rfl)|(simp[Def.cells,h1,h3,h4,hB0,hn,hg,hmd,c,hX];done)) ?_
    simp[hn]
    refine BrT.mk (fun c1=>?_) (fun c1=>?_)
    case refine_2=>(rw[c1] at hfd;simp[hn,c1,hfd])
    simp[h1,hB0,hn,c1]
    repeat refine⟨DrawT.mk (by kernel_rfl),?_⟩
    refine CallT.p0 (p_l2Own dn) (by first | rfl | (simp;done)|(simp[Def.cells,h1,h3,h4,hB0,hn,hg,hmd,c,hX,c1];done)) (by first | rfl | (simp;done)|(simp;rfl)|(simp[Def.cells,h1,h3,h4,hB0,hn,hg,hmd,c,hX,c1];done)) ?_
    simp[hn]
    refine BrT.mk (fun c2=>?_) (fun c2=>?_)
    case refine_1=>(rw[c1,c2] at hfd;simp[hn,c2,hfd])
    simp[h3,hn,c2]
    repeat refine⟨DrawT.mk (by kernel_rfl),?_⟩
    refine CallT.p0 (p_l1Once (fnames l) hnm) (by first | rfl | (simp;done)|(simp[Def.cells,h1,h3,h4,hB0,hn,hg,hmd,c,hX,c1,c2];done)) (by first | rfl | (simp;done)|(simp;rfl)|(simp[hX];done)) ?_
    simp[hn]
    refine BrT.mk (fun c3=>?_) (fun c3=>?_)
    case refine_2=>(rw[c1,c2,c3] at hfd;simp[hn,c3,hfd])
    simp[h1,hB0,hn,c3]
    repeat refine⟨DrawT.mk (by kernel_rfl),?_⟩
    refine CallT.p0 (p_l1Once words hwn) (by first | rfl | (simp;done)|(simp[Def.cells,h1,h3,h4,hB0,hn,hg,hmd,c,hX,c1,c2,c3];done)) (by first | rfl | (simp;done)|(simp;rfl)|(simp[Def.cells,h1,h3,h4,hB0,hn,hg,hmd,c,hX,c1,c2,c3];done)) ?_
    simp[hn]
    refine BrT.mk (fun c4=>?_) (fun c4=>?_)
    case refine_2=>(rw[c1,c2,c3,c4] at hfd;simp[hn,c4,hfd])
    rw[c1,c2,c3,c4] at hfd
    simp only[Bool.true_and,Bool.not_false] at hfd
    simp[h1,hB0,hn,c4]
    have i1:decide (1≤l.length)=decide ((1:Int)≤l.length):=by rw[decide_eq_decide];omega
    have i2:decide (l.length≤8)=decide ((l.length:Int)≤8):=by rw[decide_eq_decide];omega
    have i3:decide (words.length=0)=decide (words=[]):=by rw[decide_eq_decide];exact List.length_eq_zero_iff
    have i4:decide (1≤words.length)=decide ((1:Int)≤words.length):=by rw[decide_eq_decide];omega
    have i5:decide (words.length≤8)=decide ((words.length:Int)≤8):=by rw[decide_eq_decide];omega
    have i6:decide (l.length=0)=decide (l=[]):=by rw[decide_eq_decide];exact List.length_eq_zero_iff
    rw[i1,i2,i3,i4,i5,i6, ← hfd] at hrb
    refine BrT.dec (fun d1=>?_) (fun d1=>?_)
    · skip
      simp[h1,hB0,hn,d1]
      rw[if_pos (by omega)] at hrb
      have h5:=p_l1In (gl:=gl) l.length 1 8
      generalize (decide ((1:Int)≤l.length)&&decide ((l.length:Int)≤8))=g at h5 hrb
      repeat refine⟨DrawT.mk (by kernel_rfl),?_⟩
      refine CallT.p0 (h5) (by first | rfl | (simp;done)|(simp[hg];done)) (by first | rfl | (simp;done)|(simp;rfl)|(simp[Def.cells,h1,h3,h4,hB0,hn,hg,hmd,c,hX,c1,c2,c3,c4,d1];done)) ?_
      simp[hn]
      refine BrT.mk (fun c5=>?_) (fun c5=>?_)
      case refine_2=>(rw[c5] at hrb;simp[hn,c5,hrb])
      rw[c5] at hrb
      simp[h1,hB0,hn,d1,c5,hrb]
    simp[hn,d1]
    refine BrT.dec (fun d3=>?_) (fun d3=>?_)
    · skip
      simp[h1,hB0,hn,d3]
      rw[if_pos (by omega)] at hrb
      have h5:=p_l1In (gl:=gl) l.length 1 8
      generalize (decide ((1:Int)≤l.length)&&decide ((l.length:Int)≤8))=g at h5 hrb
      repeat refine⟨DrawT.mk (by kernel_rfl),?_⟩
      refine CallT.p0 (h5) (by first | rfl | (simp;done)|(simp[hg];done)) (by first | rfl | (simp;done)|(simp;rfl)|(simp[Def.cells,h1,h3,h4,hB0,hn,hg,hmd,c,hX,c1,c2,c3,c4,d1,d3];done)) ?_
      simp[hn]
      refine BrT.mk (fun c5=>?_) (fun c5=>?_)
      case refine_2=>(rw[c5] at hrb;simp[hn,c5,hrb])
      rw[c5] at hrb
      simp[h1,hB0,hn,d3,c5,hrb]
    simp[hn,d3]
    refine BrT.dec (fun d2=>?_) (fun d2=>?_)
    · skip
      simp[h1,hB0,hn,d2]
      rw[if_neg (by omega),if_pos (by omega)] at hrb
      have h5:=p_l1In (gl:=gl) words.length 1 8
      generalize (decide ((1:Int)≤words.length)&&decide ((words.length:Int)≤8))=g at h5 hrb
      refine BrT.dec (fun e5=>?_) (fun e5=>?_)
      case refine_2=>(rw[decide_eq_false e5] at hrb;simp[hn,e5,hrb])
      rw[decide_eq_true e5] at hrb
      simp[h1,hB0,hn,d2,e5]
      repeat refine⟨DrawT.mk (by kernel_rfl),?_⟩
      refine CallT.p0 (h5) (by first | rfl | (simp;done)|(simp[hg];done)) (by first | rfl | (simp;done)|(simp;rfl)|(simp[Def.cells,h1,h3,h4,hB0,hn,hg,hmd,c,hX,c1,c2,c3,c4,d1,d3,d2,e5];done)) ?_
      simp[hn]
      simp[hrb]
    simp[hn,d2]
    refine BrT.dec (fun d4=>?_) (fun d4=>?_)
    · skip
      simp[h1,hB0,hn,d4]
      rw[if_neg (by omega),if_pos (by omega)] at hrb
      have h5:=p_l1In (gl:=gl) words.length 1 8
      generalize (decide ((1:Int)≤words.length)&&decide ((words.length:Int)≤8))=g at h5 hrb
      refine BrT.dec (fun e5=>?_) (fun e5=>?_)
      case refine_2=>(rw[decide_eq_false e5] at hrb;simp[hn,e5,hrb])
      rw[decide_eq_true e5] at hrb
      simp[h1,hB0,hn,d4,e5]
      repeat refine⟨DrawT.mk (by kernel_rfl),?_⟩
      refine CallT.p0 (h5) (by first | rfl | (simp;done)|(simp[hg];done)) (by first | rfl | (simp;done)|(simp;rfl)|(simp[Def.cells,h1,h3,h4,hB0,hn,hg,hmd,c,hX,c1,c2,c3,c4,d1,d3,d2,d4,e5];done)) ?_
      simp[hn]
      simp[hrb]
    rw[if_neg (by omega),if_neg (by omega)] at hrb
    simp[hn,d4,hrb]
theorem p_l2Form (d:Def) (hd:DefSm d):PCall Tryz.prog gl 53 [d.d] (dB (defB d)):=by
  rw[← defForm_eq];exact p_l2FormD d hd
set_option maxHeartbeats 4000000 in
theorem p_l2Tree_of (L:List Def) (n:Int) (t:ByteArray) (l:List Val) (ns:List ByteArray) (d:Def) (p:Typ→Val→Bool) (hf:d.flds.length≤4611686018427387904) (hns0:ns.length≤l.length) (hl:l.length≤4611686018427387904)
    (h:∀ f∈d.flds,∀ w∈l,PCall Tryz.prog gl 81 [defsD L,f.ty.d,w.d] (dB (p f.ty w))):PCall Tryz.prog gl 140 [defsD L,d.d,(Val.mk 5 n t l ns).d] (dB ((ns.zip l).all (pairB d.flds p)&&d.flds.all (reqB ns))):=by
  have hzl:(ns.zip l).length=ns.length:=by simp;omega
  have hzat:∀ j (hj:j<ns.length),(ns.zip l)[j]'(by omega)=(ns[j],l[j]'(by omega)):=fun j hj=>by simp
  have hF:=fun s=>p_l2Field (gl:=gl) d s hf
  obtain⟨dn,kind,fs,words⟩:=d
  simp only at hf h hF
  generalize hr:((ns.zip l).all (pairB fs p)&&fs.all (reqB ns))=z
  refine PCall.by_ (md:=[]) Tryz.func140 rfl (by kernel_rfl) (n:=73) Tryz.ntmps140 (by simp) (by decide) rfl ?_
  simp[Val.cells,Def.cells]
  refine LoopT.round (fun E S=>∃ (i:Nat),(i≤ns.length)∧E 0=some (.d (defsD L))∧E 4=some (.op 0 0)∧E 5=some (.op 1 0)∧E 7=some (.d (dI i))∧S.B 0=some ([.d (dS dn), .d (dI kind), .d (fldsD fs), .d (namesD words)])∧S.B 1=some ([.d (dI 5), .d (dI n), .d (dS t), .d (valsD l), .d (namesD ns)])∧(allUp (pairB fs p) (ns.zip l) i)∧(2≤S.nx)) (upTo 7 ns.length) ⟨0,by simp;exact allUp_zero _ _⟩ ?_
  rintro E S hk ⟨i,hi,h0,h4,h5,h7,hB0,hB1,hp,hx⟩
  have hn:S.n=73:=by first | (simpa using hk.n)|(have hh:=hk.n;simp[Val.cells,Def.cells] at hh;exact hh)
  have hg:S.gl=gl:=by first | (simpa using hk.gl)|(have hh:=hk.gl;simp[Val.cells,Def.cells] at hh;exact hh)
  have hmd:S.md=[]:=by first | (simpa using hk.md)|(have hh:=hk.md;simp[Val.cells,Def.cells] at hh;exact hh)
  simp[h5,h7,hB1,hn,hg]
  have w:=wrap64 (n:=(i:Int)+1) (by omega) (by omega)
  refine BrT.dec (fun c=>?_) (fun c=>?_)
  · have hi2:i<ns.length:=by omega
    have hi3:i<l.length:=by omega
    have hi4:i<(ns.zip l).length:=by omega
    have hlen:=valsCells_len l
    have hfit:i*5+5≤l.length*5:=by omega
    have hat:=valsCells_at l hi3
    have bad:pairB fs p (ns[i],l[i])=false→z=false:=fun hb=>by rw[← hr,all_bad hi4 (by rw[hzat i hi2];exact hb)];rfl
    have good:pairB fs p (ns[i],l[i])=true→allUp (pairB fs p) (ns.zip l) (i+1):=fun hb=>all_take hi4 hp (by rw[hzat i hi2];exact hb)
    have hw:=fun f hf=>h f hf _ (List.getElem_mem hi3)
    generalize l[i]=v at hat bad good hw
    cases v with
    | mk vk vn vt vl vns =>
    simp only[Val.cells] at hat
    simp[h4,h5,h7,hB0,hB1,hn,c]
    refine⟨DrawT.mk (by kernel_rfl),?_⟩
    repeat refine⟨DrawT.mk (by kernel_rfl),?_⟩
    refine CallT.p0 (hF ns[i]) (by first | rfl | (simp;done)|(simp[hg];done)) (by first | rfl | (simp;done)|(simp;rfl)|(simp[Val.cells,Def.cells,h0,h4,h5,h7,hB0,hB1,hn,hg,hmd,c,hi2,hi3,hlen,hfit,hat,w];done)) ?_
    simp[hn]
    refine⟨DrawT.mk (by kernel_rfl),?_⟩
    have hpb:pairB fs p (ns[i], .mk vk vn vt vl vns)=match fldAt fs ns[i] with | some f=>p f.ty (.mk vk vn vt vl vns) | none=>false:=rfl
    rcases fldI_at fs ns[i] with ⟨e1,e2⟩ | ⟨j,hj,e1,e2⟩
    · rw[e2] at hpb
      have hq:=bad hpb
      simp[hn,e1,hq]
    · rw[e2] at hpb
      simp only at hpb
      have hw:=hw _ (List.getElem_mem hj)
      have flen:=flds_len fs
      have ffit:j*5+5≤fs.length*5:=by omega
      have fat:=flds_at fs hj
      generalize fs[j]=f at hpb hw fat
      obtain⟨fn,args,fty⟩:=f
      cases fty with
      | mk ft flt fb =>
      simp only[Fld.cells,Typ.cells] at fat
      simp only at hpb hw
      have fat_2_3:=row_sub fat 2 3 (by decide)
      have fat_2_3':j*5+2+3≤_:=Nat.le_trans (by omega) ffit
      have hneg:¬ ((j:Int)<0):=by omega
      simp[h0,h4,h5,h7,hB0,hB1,hn,hi3,hlen,hfit,hat,fat_2_3,fat_2_3',e1,hneg,hj,flen]
      repeat refine⟨DrawT.mk (by kernel_rfl),?_⟩
      refine CallT.p0 (hw) (by first | rfl | (simp;done)|(simp[hg];done)) (by first | rfl | (simp;done)|(simp;rfl)|(simp[Val.cells,Def.cells,h0,h4,h5,h7,hB0,hB1,hn,hg,hmd,c,hi2,hi3,hlen,hfit,hat,w,fat_2_3,fat_2_3',e1,hneg,hj,flen];done)) ?_
      simp[hn]
      refine BrT.mk (fun c1=>?_) (fun c1=>?_)
      case refine_2=>(have hq:=bad (by rw[hpb,c1]);simp[hn,c1,hq])
      simp[h0,h4,h5,h7,hB0,hB1,hn,w,c1]
      exact⟨⟨i+1,hi2,by omega,good (by rw[hpb,c1])⟩,upTo_lt h7 (by simp) hi2⟩
  · have hi3:i=ns.length:=by omega
    subst hi3
    have hp1:(ns.zip l).all (pairB fs p)=true:=allUp_all (by rw[hzl];exact hp)
    rw[hp1,Bool.true_and] at hr
    simp[hn,c]
    refine LoopT.round (fun E S=>∃ (k:Nat),(k≤fs.length)∧E 0=some (.d (defsD L))∧E 4=some (.op 0 0)∧E 5=some (.op 1 0)∧E 9=some (.d (dI k))∧S.B 0=some ([.d (dS dn), .d (dI kind), .d (fldsD fs), .d (namesD words)])∧S.B 1=some ([.d (dI 5), .d (dI n), .d (dS t), .d (valsD l), .d (namesD ns)])∧(allUp (reqB ns) fs k)∧(2≤S.nx)) (upTo 9 fs.length) ⟨0,by simp[h0,h4,h5,hB0,hB1];exact allUp_zero _ _⟩ ?_
    rintro E S hk ⟨k,hk2,h0,h4,h5,h9,hB0,hB1,hp2,hx⟩
    have hn:S.n=73:=by first | (simpa using hk.n)|(have hh:=hk.n;simp[hn] at hh;exact hh)
    have hg:S.gl=gl:=by first | (simpa using hk.gl)|(have hh:=hk.gl;simp[hg] at hh;exact hh)
    have hmd:S.md=[]:=by first | (simpa using hk.md)|(have hh:=hk.md;simp[hmd] at hh;exact hh)
    simp[h4,h9,hB0,hn,hg]
    have w2:=wrap64 (n:=(k:Int)+1) (by omega) (by omega)
    refine BrT.dec (fun c2=>?_) (fun c2=>?_)
    · have hk3:k<fs.length:=by omega
      have flen:=flds_len fs
      have ffit:k*5+5≤fs.length*5:=by omega
      have fat:=flds_at fs hk3
      have bad:reqB ns fs[k]=false→z=false:=fun hb=>by rw[← hr,all_bad hk3 hb]
      have good:=all_take (p:=reqB ns) hk3 hp2
      generalize fs[k]=f at fat bad good
      obtain⟨fn,args,fty⟩:=f
      cases fty with
      | mk ft flt fb =>
      simp only[Fld.cells,Typ.cells] at fat
      have hrq:reqB ns ⟨fn,args, .mk ft flt fb⟩ = !(fb && !memB fn ns):=rfl
      rw[hrq] at bad good
      have fat_0:=row_get0 fat (by decide) rfl
      have fat_0'':=(List.getElem?_eq_some_iff.1 fat_0).2
      have fat_0':k*5<_:=Nat.lt_of_lt_of_le (by omega) ffit
      have fat_4:=row_get fat 4 (by decide) rfl
      have fat_4'':=(List.getElem?_eq_some_iff.1 fat_4).2
      have fat_4':k*5+4<_:=Nat.lt_of_lt_of_le (by omega) ffit
      have hT:=p_l1TreeT (gl:=gl) 5 n t l ns fn (fun _=>hns0) hl (by omega)
      have hTs:(treeK 5 ns l fn).isSome=memB fn ns:=treeV_some ns l fn hns0
      rw[hTs] at hT
      generalize (treeK 5 ns l fn).getD zV0=tv at hT
      cases tv with
      | mk tk tn tt tl tns =>
      simp[h4,h5,h9,hB0,hB1,hn,c2,fat_0',fat_0'',flen]
      refine⟨DrawT.mk (by kernel_rfl),?_⟩
      repeat refine⟨DrawT.mk (by kernel_rfl),?_⟩
      refine CallT.p0 (hT) (by first | rfl | (simp;done)|(simp[hg];done)) (by first | rfl | (simp;done)|(simp;rfl)|(simp[Val.cells,Def.cells,h0,h4,h5,h7,hB0,hB1,hn,hg,hmd,c,h0,h4,h5,h9,hB0,hB1,hn,hg,hmd,c2,fat_0,fat_0',fat_0'',fat_4,fat_4',fat_4'',hk3,flen,w2];done)) ?_
      simp[Val.cells,h4,h9,hB0,hn,c2,fat_4',fat_4'',flen]
      refine BrT.mk (fun c4=>?_) (fun c4=>?_)
      · simp[hn,c4]
        refine BrT.mk (fun c5=>?_) (fun c5=>?_)
        case refine_2=>(have hq:=bad (by rw[c4,c5];rfl);simp[hn,c5,hq])
        simp[h0,h4,h5,h9,hB0,hB1,hn,w2,c5]
        exact⟨⟨k+1,hk3,by omega,good (by rw[c4,c5];rfl)⟩,upTo_lt h9 (by simp) hk3⟩
      · simp[h0,h4,h5,h9,hB0,hB1,hn,w2,c4]
        exact⟨⟨k+1,hk3,by omega,good (by rw[c4];rfl)⟩,upTo_lt h9 (by simp) hk3⟩
    · have hk4:k=fs.length:=by omega
      subst hk4
      rw[allUp_all hp2] at hr
      simp[hn,c2, ← hr]
set_option maxHeartbeats 4000000 in
theorem p_l2Fits (L:List Def) (hL:L.length≤1000000) (hd:∀ d∈L,defB d=true∧DefOk d) (v:Val) (t:Typ) (e:Nat) (ht:typB t e=true) (hv:WF v) (hw:TW v):PCall Tryz.prog gl 81 [defsD L,t.d,v.d] (dB (fitsB L t v)):=by
  match t,v,e,ht,hv,hw with
  | t,v,0,ht,_,_=>simp[typB] at ht
  | .mk t lt b, .mk k n x vs ns,e+1,ht, .mk hx hn hl hwf, .mk hz htw =>
  have hfe:=fitsB_eq L t lt b k n x vs ns
  have ih:∀ y,lt=[y]→typB y e=true→PCall Tryz.prog gl 81 [defsD L,y.d,(Val.mk k n x vs ns).d] (dB (fitsB L y (.mk k n x vs ns)))∧∀ w∈vs,PCall Tryz.prog gl 81 [defsD L,y.d,w.d] (dB (fitsB L y w)):=fun y hlt hy =>
    ⟨p_l2Fits L hL hd (.mk k n x vs ns) y e hy (.mk hx hn hl hwf) (.mk hz htw),fun w hm=>p_l2Fits L hL hd w y e hy (hwf w hm) (htw w hm)⟩
  have ih2:∀ f:Fld,typB f.ty 3=true→∀ w∈vs,PCall Tryz.prog gl 81 [defsD L,f.ty.d,w.d] (dB (fitsB L f.ty w)):=fun f hf w hm=>p_l2Fits L hL hd w f.ty 3 hf (hwf w hm) (htw w hm)
  generalize fitsB L (.mk t lt b) (.mk k n x vs ns)=z at hfe
  unfold typB at ht
  by_cases k0:k=0
  · rw[if_pos k0] at hfe
    refine PCall.by_ (md:=[]) Tryz.func81 rfl (by kernel_rfl) (n:=125) Tryz.ntmps81 (by simp) (by decide) rfl ?_
    simp[Val.cells,Typ.cells,k0,hfe]
  rw[if_neg k0] at hfe
  by_cases h0:t=noS
  · rw[if_pos h0] at ht
    match lt,ht,ih with
    | [],ht,_=>simp at ht
    | _::_::_,ht,_=>simp at ht
    | [y],ht,ih =>
      simp only at ht
      obtain⟨ih1,ihs⟩:=ih y rfl ht
      have hs:fitsS L t [y] k n x vs ns=if k=4 then vs.all (fitsB L y) else fitsB L y (.mk k n x vs ns):=if_pos h0
      rw[hs] at hfe
      by_cases k4:k=4
      · rw[if_pos k4] at hfe
        cases y with
        | mk ty ly by_ =>
        refine PCall.by_ (md:=[]) Tryz.func81 rfl (by kernel_rfl) (n:=125) Tryz.ntmps81 (by simp) (by decide) rfl ?_
        simp[Val.cells,Typ.cells,typsCells,k4]
        refine LoopT.round (fun E S=>∃ (i:Nat),(i≤vs.length)∧E 0=some (.d (defsD L))∧E 4=some (.op 0 0)∧E 5=some (.op 1 0)∧E 7=some (.d (dI i))∧S.B 0=some ([.d (dS t), .d (.ps [dS ty,typsD ly,dB by_] 1), .d (dB b)])∧S.B 1=some ([.d (dI 4), .d (dI n), .d (dS x), .d (valsD vs), .d (namesD ns)])∧(allUp (fitsB L (.mk ty ly by_)) vs i)∧(2≤S.nx)) (upTo 7 vs.length) ⟨0,by simp;exact allUp_zero _ _⟩ ?_
        rintro E S hk ⟨i,hi,h0,h4,h5,h7,hB0,hB1,hp,hx2⟩
        have hn:S.n=125:=by first | (simpa using hk.n)|(have hh:=hk.n;simp[Val.cells,Typ.cells,typsCells,k0,k4] at hh;exact hh)
        have hg:S.gl=gl:=by first | (simpa using hk.gl)|(have hh:=hk.gl;simp[Val.cells,Typ.cells,typsCells,k0,k4] at hh;exact hh)
        have hmd:S.md=[]:=by first | (simpa using hk.md)|(have hh:=hk.md;simp[Val.cells,Typ.cells,typsCells,k0,k4] at hh;exact hh)
        simp[h5,h7,hB1,hn,hg]
        have w:=wrap64 (n:=(i:Int)+1) (by omega) (by omega)
        refine BrT.dec (fun c=>?_) (fun c=>?_)
        · have hi3:i<vs.length:=by omega
          have hlen:=valsCells_len vs
          have hfit:i*5+5≤vs.length*5:=by omega
          have hat:=valsCells_at vs hi3
          have bad:fitsB L (.mk ty ly by_) vs[i]=false→z=false:=fun hb=>by rw[hfe,all_bad hi3 hb]
          have good:=all_take (p:=fitsB L (.mk ty ly by_)) hi3 hp
          have hw:=ihs _ (List.getElem_mem hi3)
          generalize vs[i]=v at hat bad good hw
          cases v with
          | mk vk vn vt vl vns =>
          simp only[Val.cells] at hat
          simp[h0,h4,h5,h7,hB0,hB1,hn,c,hlen,hfit,hat]
          refine⟨DrawT.mk (by kernel_rfl),?_⟩
          repeat refine⟨DrawT.mk (by kernel_rfl),?_⟩
          refine CallT.p0 (hw) (by first | rfl | (simp;done)|(simp[hg];done)) (by first | rfl | (simp;done)|(simp;rfl)|(simp[Val.cells,Typ.cells,typsCells,k0,k4,h0,h4,h5,h7,hB0,hB1,hn,hg,hmd,c,hi3,hlen,hfit,hat,w];done)) ?_
          simp[hn]
          refine BrT.mk (fun c1=>?_) (fun c1=>?_)
          case refine_2=>(have hq:=bad c1;simp[hn,c1,hq])
          simp[h0,h4,h5,h7,hB0,hB1,hn,w,c1]
          exact⟨⟨i+1,hi3,by omega,good c1⟩,upTo_lt h7 (by simp) hi3⟩
        · have hi3:i=vs.length:=by omega
          subst hi3
          rw[allUp_all hp] at hfe
          simp[hn,c,hfe]
      · rw[if_neg k4] at hfe
        cases y with
        | mk ty ly by_ =>
        refine PCall.by_ (md:=[]) Tryz.func81 rfl (by kernel_rfl) (n:=125) Tryz.ntmps81 (by simp) (by decide) rfl ?_
        simp[Val.cells,Typ.cells,typsCells,k0,k4]
        refine⟨DrawT.mk (by kernel_rfl),?_⟩
        repeat refine⟨DrawT.mk (by kernel_rfl),?_⟩
        refine CallT.p0 (ih1) (by first | rfl | (simp;done)|(simp[Val.cells,Typ.cells,typsCells,k0,k4];done)) (by first | rfl | (simp;done)|(simp;rfl)|(simp[Val.cells,Typ.cells,typsCells,k0,k4];done)) ?_
        simp
        simp[hfe]
  · rw[if_neg h0,Bool.and_eq_true] at ht
    have hlt:lt=[]:=List.eq_nil_of_length_eq_zero (by simpa using ht.2)
    subst hlt
    unfold fitsS at hfe
    rw[if_neg h0] at hfe
    refine PCall.by_ (md:=[]) Tryz.func81 rfl (by kernel_rfl) (n:=125) Tryz.ntmps81 (by simp) (by decide) rfl ?_
    simp[Val.cells,Typ.cells,typsCells,k0]
    refine BrT.dec (fun t1=>?_) (fun t1=>?_)
    case refine_1=>(rw[if_pos t1] at hfe;simp[t1,hfe])
    rw[if_neg t1] at hfe
    simp[t1]
    refine BrT.dec (fun t2=>?_) (fun t2=>?_)
    case refine_1=>(rw[if_pos t2] at hfe;simp[t2,hfe])
    rw[if_neg t2] at hfe
    simp[t2]
    refine BrT.dec (fun t3=>?_) (fun t3=>?_)
    case refine_1=>(rw[if_pos t3] at hfe;simp[t3,hfe])
    rw[if_neg t3] at hfe
    simp[t3]
    refine BrT.dec (fun t4=>?_) (fun t4=>?_)
    · rw[if_pos t4] at hfe
      simp[t4]
      refine BrT.dec (fun k3=>?_) (fun k3=>?_)
      case refine_1=>simp[hfe,k3]
      simp[hfe,k3]
    rw[if_neg t4] at hfe
    simp[t4]
    repeat refine⟨DrawT.mk (by kernel_rfl),?_⟩
    refine CallT.p0 (p_l2At L t (by omega)) (by first | rfl | (simp;done)|(simp[Val.cells,Typ.cells,typsCells,k0,h0,t1,t2,t3,t4];done)) (by first | rfl | (simp;done)|(simp;rfl)|(simp[Val.cells,Typ.cells,typsCells,k0,h0,t1,t2,t3,t4];done)) ?_
    simp
    cases ha:atD L t with
    | none =>
      have hz1:atZ L t = -1:=by unfold atZ;rw[ha]
      have hk:kindL L t=0:=by rw[kindL,defL_none ha];rfl
      rw[hk,if_neg (by omega),if_neg (by omega)] at hfe
      simp[hz1,hfe]
    | some j =>
      have hz1:atZ L t=j:=by unfold atZ;rw[ha]
      have hj:=atD_lt ha
      have hdl:=defL_some ha
      have hlen:=defs_len L
      have hfit:j*4+4≤L.length*4:=by omega
      have hat:=defs_at L hj
      have hkk:kindL L t=(defL L t).kind:=rfl
      obtain⟨hdb,hdo⟩:=hd _ (List.getElem_mem hj)
      rw[hdl] at hkk hfe
      generalize L[j]=d at hat hkk hfe hdb hdo
      have hTr:=fun hk5=>p_l2Tree_of (gl:=gl) L n x vs ns d (fitsB L) hdo.2.1.1 (hz hk5) hl fun f hf w hm=>ih2 f (fld_of hdb f hf).1 w hm
      obtain⟨dn,kind,fs,words⟩:=d
      simp only at hkk hfe
      simp only[Def.cells] at hat
      have hat_1:=row_get hat 1 (by decide) rfl
      have hat_1'':=(List.getElem?_eq_some_iff.1 hat_1).2
      have hat_1':j*4+1<_:=Nat.lt_of_lt_of_le (by omega) hfit
      have hat_3:=row_get hat 3 (by decide) rfl
      have hat_3'':=(List.getElem?_eq_some_iff.1 hat_3).2
      have hat_3':j*4+3<_:=Nat.lt_of_lt_of_le (by omega) hfit
      have hat_0_4:=row_sub0 hat 4 (by decide)
      have hat_0_4':j*4+4≤_:=Nat.le_trans (by omega) hfit
      have hneg:¬ ((j:Int)<0):=by omega
      rw[hkk] at hfe
      simp[hat_1',hat_1'',hz1,hneg,hj,hlen]
      refine BrT.dec (fun kk2=>?_) (fun kk2=>?_)
      · rw[if_pos kk2] at hfe
        have hwl:=hdo.2.2.1
        simp only at hwl
        simp[kk2]
        refine⟨DrawT.mk (by kernel_rfl),?_⟩
        refine BrT.dec (fun k7=>?_) (fun k7=>?_)
        · rw[decide_eq_true k7,Bool.true_or,Bool.true_and] at hfe
          simp[hat_3',hat_3'',hj,hlen,k7]
          repeat refine⟨DrawT.mk (by kernel_rfl),?_⟩
          refine CallT.p0 (p_l2Has words x (by omega)) (by first | rfl | (simp;done)|(simp[Val.cells,Typ.cells,typsCells,k0,h0,t1,t2,t3,t4,hat_1,hat_1',hat_1'',hat_3,hat_3',hat_3'',hat_0_4,hat_0_4',hz1,hneg,hj,hlen,kk2,k7];done)) (by first | rfl | (simp;done)|(simp;rfl)|(simp[Val.cells,Typ.cells,typsCells,k0,h0,t1,t2,t3,t4,hat_1,hat_1',hat_1'',hat_3,hat_3',hat_3'',hat_0_4,hat_0_4',hz1,hneg,hj,hlen,kk2,k7];done)) ?_
          simp
          rw[hfe]
        simp[k7]
        refine BrT.dec (fun k3=>?_) (fun k3=>?_)
        case refine_2=>(rw[decide_eq_false k7,decide_eq_false k3] at hfe;simp[k3,hfe])
        rw[decide_eq_true k3,Bool.or_true,Bool.true_and] at hfe
        simp[hat_3',hat_3'',hj,hlen,k3]
        repeat refine⟨DrawT.mk (by kernel_rfl),?_⟩
        refine CallT.p0 (p_l2Has words x (by omega)) (by first | rfl | (simp;done)|(simp[Val.cells,Typ.cells,typsCells,k0,h0,t1,t2,t3,t4,hat_1,hat_1',hat_1'',hat_3,hat_3',hat_3'',hat_0_4,hat_0_4',hz1,hneg,hj,hlen,kk2,k7,k3];done)) (by first | rfl | (simp;done)|(simp;rfl)|(simp[Val.cells,Typ.cells,typsCells,k0,h0,t1,t2,t3,t4,hat_1,hat_1',hat_1'',hat_3,hat_3',hat_3'',hat_0_4,hat_0_4',hz1,hneg,hj,hlen,kk2,k7,k3];done)) ?_
        simp
        rw[hfe]
      · rw[if_neg kk2] at hfe
        simp[hat_1',hat_1'',hj,hlen,kk2]
        refine⟨DrawT.mk (by kernel_rfl),?_⟩
        refine BrT.dec (fun kk3=>?_) (fun kk3=>?_)
        case refine_2=>(rw[if_neg kk3] at hfe;simp[kk3,hfe])
        rw[if_pos kk3] at hfe
        simp[kk3]
        refine BrT.dec (fun k5=>?_) (fun k5=>?_)
        case refine_2=>(rw[decide_eq_false k5] at hfe;simp[k5,hfe])
        rw[decide_eq_true k5] at hfe
        have hTr5:PCall Tryz.prog gl 140 [defsD L,(⟨dn,kind,fs,words⟩:Def).d,(Val.mk k n x vs ns).d] (dB ((ns.zip vs).all (pairB fs (fitsB L))&&fs.all (reqB ns))):=by rw[k5];exact hTr k5
        simp[hat_0_4,hat_0_4',hj,hlen,kk3,k5]
        repeat refine⟨DrawT.mk (by kernel_rfl),?_⟩
        refine CallT.p0 (hTr5) (by first | rfl | (simp;done)|(simp[Val.cells,Typ.cells,typsCells,k0,h0,t1,t2,t3,t4,hat_1,hat_1',hat_1'',hat_3,hat_3',hat_3'',hat_0_4,hat_0_4',hz1,hneg,hj,hlen,kk2,kk3,k5,Def.cells];done)) (by first | rfl | (simp;done)|(simp;rfl)|(simp[Val.cells,kk3,k5,Def.cells];done)) ?_
        simp
        simp[hfe]
  termination_by (SizeOf.sizeOf v,SizeOf.sizeOf t)
  decreasing_by
    · apply Prod.Lex.right
      subst hlt
      simp;omega
    · have:=List.sizeOf_lt_of_mem hm
      apply Prod.Lex.left
      simp;omega
    · have:=List.sizeOf_lt_of_mem hm
      apply Prod.Lex.left
      simp;omega
end Go.Proofs.YtlmpjblmmpddeaaGreat
namespace Go.Proofs.YtlmpjblmmpddeaaGreat
open Go.Sh
inductive Far (nx:ByteArray→List ByteArray):ByteArray→ByteArray→Prop
  | one {x y:ByteArray} (h:y∈nx x):Far nx x y
  | more {x y z:ByteArray} (h:y∈nx x) (k:Far nx y z):Far nx x z
theorem Far.trans {nx:ByteArray→List ByteArray}{x y z:ByteArray} (h:Far nx x y) (k:Far nx y z):Far nx x z:=by
  induction h with
  | one h=>exact .more h k
  | more h _ ih=>exact .more h (ih k)
theorem nodup_len:∀ {l m:List ByteArray},l.Nodup→(∀ x∈l,x∈m)→l.length≤m.length
  | [],m,_,_=>Nat.zero_le _
  | x::r,m,hd,hs=>by
    have hx:=hs x List.mem_cons_self
    rw[List.nodup_cons] at hd
    obtain⟨a,b,rfl⟩:=List.append_of_mem hx
    have ih:=nodup_len (l:=r) (m:=a++b) hd.2 fun y hy=>by
      have:=hs y (List.mem_cons_of_mem _ hy)
      have hne:y≠x:=by rintro rfl;exact hd.1 hy
      simpa[hne] using this
    simp at ih ⊢
    omega
def stepsB (nx:ByteArray→List ByteArray) (ok:ByteArray→Bool):Nat→ByteArray→Bool
  | 0,x=>ok x
  | m+1,x=>ok x&&(nx x).any (stepsB nx ok m)
section
variable {nx:ByteArray→List ByteArray}{ok:ByteArray→Bool}{U:List ByteArray}
theorem steps_ok {m:Nat}{x:ByteArray} (h:stepsB nx ok m x=true):ok x=true:=by
  cases m with
  | zero=>exact h
  | succ m=>rw[stepsB,Bool.and_eq_true] at h;exact h.1
theorem steps_round (hU:∀ y,ok y=true→y∈U):∀ (m:Nat) (x:ByteArray) (V:List ByteArray),stepsB nx ok m x=true→V.Nodup→(∀ v∈V,Far nx v x∧v∈U)→U.length<m+V.length→∃ y∈U,Far nx y y
  | m,x,V,h,hd,hV,hl=>by
    by_cases hx:x∈V
    · exact⟨x,(hV x hx).2,(hV x hx).1⟩
    have hxU:=hU x (steps_ok h)
    have hd2:(x::V).Nodup:=List.nodup_cons.2 ⟨hx,hd⟩
    have hle:=nodup_len hd2 fun y hy=>by
      rcases List.mem_cons.1 hy with rfl | hy
      · exact hxU
      · exact (hV y hy).2
    rw[List.length_cons] at hle
    match m,h,hl with
    | 0,h,hl=>omega
    | m+1,h,hl =>
      rw[stepsB,Bool.and_eq_true,List.any_eq_true] at h
      obtain⟨_,y,hy,hs⟩:=h
      refine steps_round hU m y (x::V) hs hd2 (fun v hv=>?_) (by rw[List.length_cons];omega)
      rcases List.mem_cons.1 hv with rfl | hv
      · exact⟨.one hy,hxU⟩
      · exact⟨(hV v hv).1.trans (.one hy),(hV v hv).2⟩
theorem round_steps (hk:∀ x y,y∈nx x→ok x=true) {y:ByteArray} (hy:Far nx y y):∀ (m:Nat) (x:ByteArray),Far nx x y→stepsB nx ok m x=true
  | 0,x,h=>by
    cases h with
    | one h=>exact hk _ _ h
    | more h _=>exact hk _ _ h
  | m+1,x,h=>by
    rw[stepsB,Bool.and_eq_true,List.any_eq_true]
    cases h with
    | one h=>exact⟨hk _ _ h,y,h,round_steps hk hy m y hy⟩
    | more h k=>exact⟨hk _ _ h,_,h,round_steps hk hy m _ k⟩
def needsG (nx:ByteArray→List ByteArray):Nat→ByteArray→List ByteArray→List ByteArray
  | 0,_,k=>k
  | n+1,x,k=>(nx x).foldl (fun k y=>if memB y k=true then k else needsG nx n y (k++[y])) k
structure KnownIn (U k:List ByteArray):Prop where
  nodup:k.Nodup
  sub:∀ y∈k,y∈U
structure Grew (nx:ByteArray→List ByteArray) (U:List ByteArray) (x:ByteArray) (k r:List ByteArray):Prop where
  inv:KnownIn U r
  sub:∀ y∈k,y∈r
  len:k.length≤r.length
  shut:∀ y∈r,¬ y∈k→∀ z∈nx y,z∈r
  far:∀ y∈r,¬ y∈k→Far nx x y
theorem KnownIn.snoc {k:List ByteArray}{y:ByteArray} (h:KnownIn U k) (hy:y∈U) (hn:¬ y∈k):KnownIn U (k++[y]):=by
  refine⟨?_,fun z hz=>?_⟩
  · rw[List.nodup_append]
    refine⟨h.nodup,by simp,fun a ha b hb e=>?_⟩
    simp at hb
    exact hn (by rw[← hb, ← e];exact ha)
  · rcases List.mem_append.1 hz with hz | hz
    · exact h.sub z hz
    · simp at hz;exact hz▸hy
theorem grew_fold (n:Nat) (x:ByteArray) (k:List ByteArray) (ih:∀ y k',KnownIn U k'→U.length<n+k'.length→Grew nx U y k' (needsG nx n y k')∧∀ z∈nx y,z∈needsG nx n y k')
    (hl:U.length<n+1+k.length):∀ (s:List ByteArray) (k':List ByteArray),(∀ y∈s,y∈nx x∧y∈U)→Grew nx U x k k' →
      Grew nx U x k (s.foldl (fun k y=>if memB y k=true then k else needsG nx n y (k++[y])) k')∧(∀ y∈s,y∈s.foldl (fun k y=>if memB y k=true then k else needsG nx n y (k++[y])) k')∧∀ y∈k',y∈s.foldl (fun k y=>if memB y k=true then k else needsG nx n y (k++[y])) k'
  | [],k',_,h=>⟨h,fun y hy=>by simp at hy,fun y hy=>hy⟩
  | y::s,k',hs,h=>by
    have hy:=hs y List.mem_cons_self
    rw[List.foldl_cons]
    by_cases hm:memB y k'=true
    · rw[if_pos hm]
      obtain⟨h1,h2,h3⟩:=grew_fold n x k ih hl s k' (fun z hz=>hs z (List.mem_cons_of_mem _ hz)) h
      refine⟨h1,fun z hz=>?_,h3⟩
      rcases List.mem_cons.1 hz with rfl | hz
      · exact h3 _ (memB_iff.1 hm)
      · exact h2 z hz
    · rw[if_neg hm]
      have hm:¬ y∈k':=fun e=>hm (memB_iff.2 e)
      have hK:=h.inv.snoc hy.2 hm
      have hle:=h.len
      obtain⟨g,gs⟩:=ih y (k'++[y]) hK (by simp;omega)
      have hg:Grew nx U x k (needsG nx n y (k'++[y])):=by
        refine⟨g.inv,fun z hz=>g.sub z (List.mem_append_left _ (h.sub z hz)),?_,fun z hz hn w hw=>?_,fun z hz hn=>?_⟩
        · have:=g.len;simp at this;omega
        · by_cases hzk:z∈k'
          · exact g.sub w (List.mem_append_left _ (h.shut z hzk hn w hw))
          · by_cases hzy:z=y
            · subst hzy;exact gs w hw
            · exact g.shut z hz (by simp[hzk,hzy]) w hw
        · by_cases hzk:z∈k'
          · exact h.far z hzk hn
          · by_cases hzy:z=y
            · subst hzy;exact .one hy.1
            · exact .more hy.1 (g.far z hz (by simp[hzk,hzy]))
      obtain⟨h1,h2,h3⟩:=grew_fold n x k ih hl s _ (fun z hz=>hs z (List.mem_cons_of_mem _ hz)) hg
      refine⟨h1,fun z hz=>?_,fun z hz=>h3 z (g.sub z (List.mem_append_left _ hz))⟩
      rcases List.mem_cons.1 hz with rfl | hz
      · exact h3 _ (g.sub _ (by simp))
      · exact h2 z hz
theorem KnownIn.self {k:List ByteArray}{x:ByteArray} (h:KnownIn U k):Grew nx U x k k:=⟨h,fun _ h=>h,Nat.le_refl _,fun y h n=>absurd h n,fun y h n=>absurd h n⟩
theorem needs_grew (hnx:∀ x y,y∈nx x→y∈U):∀ (n:Nat) (x:ByteArray) (k:List ByteArray),KnownIn U k→U.length<n+k.length→Grew nx U x k (needsG nx n x k)∧∀ z∈nx x,z∈needsG nx n x k
  | 0,x,k,h,hl=>by have:=nodup_len h.nodup h.sub;omega
  | n+1,x,k,h,hl=>by
    have:=grew_fold (nx:=nx) (U:=U) n x k (needs_grew hnx n) hl (nx x) k (fun y hy=>⟨hy,hnx x y hy⟩) h.self
    exact⟨this.1,this.2.1⟩
theorem grew_part (hnx:∀ x y,y∈nx x→y∈U) {n:Nat}{x:ByteArray}{k:List ByteArray} (h:KnownIn U k) (hl:U.length<n+1+k.length) {s:List ByteArray} (hs:∀ y∈s,y∈nx x):Grew nx U x k (s.foldl (fun k y=>if memB y k=true then k else needsG nx n y (k++[y])) k) :=
  (grew_fold (nx:=nx) (U:=U) n x k (needs_grew hnx n) hl s k (fun y hy=>⟨hs y hy,hnx x y (hs y hy)⟩) h.self).1
theorem needs_self (hnx:∀ x y,y∈nx x→y∈U) (x:ByteArray):memB x (needsG nx (U.length+1) x [])=true↔Far nx x x:=by
  obtain⟨g,gs⟩:=needs_grew hnx (U.length+1) x [] ⟨by simp,by simp⟩ (by simp)
  rw[memB_iff]
  refine⟨fun h=>g.far x h (by simp),fun h=>?_⟩
  have all:∀ a b,Far nx a b→(∀ z∈nx a,z∈needsG nx (U.length+1) x [])→b∈needsG nx (U.length+1) x []:=fun a b h=>by
    induction h with
    | one h=>exact fun k=>k _ h
    | more h _ ih=>exact fun k=>ih (g.shut _ (k _ h) (by simp))
  exact all x x h gs
end
end Go.Proofs.YtlmpjblmmpddeaaGreat
namespace Go.Proofs.YtlmpjblmmpddeaaGreat
open Go.Sh
theorem any_take {α:Type}{p:α→Bool}{l:List α}{i:Nat} (hi:i<l.length):(l.take (i+1)).any p=((l.take i).any p || p l[i]):=by
  rw[List.take_succ_eq_append_getElem hi,List.any_append];simp
def noUp {α:Type} (p:α→Bool) (l:List α) (i:Nat):Prop:=(l.take i).any p=false
theorem noUp_zero {α:Type} (p:α→Bool) (l:List α):noUp p l 0:=rfl
theorem noUp_next {α:Type}{p:α→Bool}{l:List α}{i:Nat} (hi:i<l.length) (h:noUp p l i) (hp:p l[i]=false):noUp p l (i+1):=by
  unfold noUp at h ⊢
  rw[any_take hi,h,hp];rfl
theorem noUp_all {α:Type}{p:α→Bool}{l:List α} (h:noUp p l l.length):l.any p=false:=by
  unfold noUp at h
  rwa [List.take_length] at h
theorem any_at {α:Type}{p:α→Bool}{l:List α}{i:Nat} (hi:i<l.length) (h:p l[i]=true):l.any p=true:=List.any_eq_true.2 ⟨_,List.getElem_mem hi,h⟩
def AsD (s t:SV):Prop:=s=t∨∃ d,s.toD=some d∧t=.d d
def AsDs:List SV→List SV→Prop
  | [],[]=>True
  | s::ss,t::ts=>AsD s t∧AsDs ss ts
  | _,_=>False
theorem AsDs.at:∀ {ss ts:List SV},AsDs ss ts→ss.length=ts.length∧∀ j (h:j<ss.length) (h':j<ts.length),AsD ss[j] ts[j]
  | [],[],_=>⟨rfl,fun j h=>by cases h⟩
  | s::ss,t::ts,h=>by
    obtain⟨h1,h2⟩:=AsDs.at h.2
    refine⟨by simp[h1],fun j hj hj'=>?_⟩
    cases j with
    | zero=>exact h.1
    | succ j=>exact h2 j (by simpa using hj) (by simpa using hj')
theorem LCall.as {P:Program}{f:FuncId}{ss ts:List SV}{S S':St}{r:SV} (h:LCall P f ts S r S') (ha:AsDs ss ts):LCall P f ss S r S':=by
  obtain⟨a1,a2⟩:=ha.at
  refine⟨h.1,h.2.1,fun m0 w0 G E F a w vals hr hF hl hv=>h.2.2 m0 w0 G E F a w vals hr hF (by omega) fun j hj hj'=>?_⟩
  have:=hv j (by omega) hj'
  rcases a2 j (by omega) hj with e | ⟨d,e1,e2⟩
  · rw[← e];exact this
  · rw[e2];exact .d (this.toD e1)
def AccN (S0 S:St) (X:SV) (k:List ByteArray):Prop:=(k=[]∧X=.fl [] 0)∨∃ q,S0.nx≤q∧q<S.nx∧X=.tp q 0 (k.map dS) k.length∧S.T q=some (k.length,1)
theorem AccN.nil {S0 S:St}:AccN S0 S (.fl [] 0) []:=.inl ⟨rfl,rfl⟩
theorem AccN.toD {S0 S:St}{X:SV}{k:List ByteArray} (h:AccN S0 S X k):X.toD=some (namesD k):=by
  rcases h with ⟨rfl,rfl⟩ | ⟨q,_,_,rfl,_⟩<;>rfl
theorem AccN.mono {S0 S S':St}{X:SV}{k:List ByteArray} (h:AccN S0 S X k) (hn:S.nx≤S'.nx) (hT:∀ i,i<S.nx→S'.T i=S.T i):AccN S0 S' X k :=
  h.imp id fun ⟨q,h1,h2,h3,h4⟩=>⟨q,h1,by omega,h3,(hT q h2).trans h4⟩
theorem AccN.add {P:Program}{S0 S:St}{X:SV}{k l:List ByteArray}{id:Nat}{dst:Option Nat}{T e:TypeId}{by_:Nat} (h:AccN S0 S X k) (hT:appOf P T=some (e,1,by_)) (hmd:S.md=[]) (hid:S0.nx≤id) (hid2:id<S.nx) (hb:appBound k.length l.length by_) :
    ∃ X' E',evalAppend P S id dst T X (.d (namesD l))=some (X',E')∧AccN S0 (S.app id E') X' (k++l)∧(S.app id E').B=S.B∧(S.app id E').nx=S.nx∧(S.app id E').n=S.n∧(S.app id E').gl=S.gl∧(S.app id E').md=S.md∧∀ i,i<S0.nx→(S.app id E').T i=S.T i:=by
  have hr:rowS (.d (namesD l))=some (l.map dS,l.length):=by simp
  rcases h with ⟨rfl,rfl⟩ | ⟨q,h1,h2,rfl,h3⟩
  · by_cases hl:l.length=0
    · refine⟨.fl [] 0, .no,?_, .inl ⟨by simp[List.eq_nil_of_length_eq_zero hl],rfl⟩,rfl,rfl,rfl,rfl,rfl,fun _ _=>rfl⟩
      rw[evalAppend_fl,hr,hT]
      simp[appFl,hl]
    · refine⟨.tp id 0 (l.map dS) l.length, .tip id l.length 1,?_, .inr ⟨id,hid,hid2,by simp,by simp⟩,rfl,rfl,rfl,rfl,rfl,fun i hi=>?_⟩
      · rw[evalAppend_fl,hr,hT,hmd]
        have hl2:¬ l=[]:=fun e=>hl (by rw[e];rfl)
        have hb:appBound 0 l.length by_:=hb
        simp[appFl,hl,onlyIf,hb]
      · simp;omega
  · refine⟨.tp q 0 ((k++l).map dS) (k++l).length, .tip q (k.length+l.length) 1,?_, .inr ⟨q,h1,h2,rfl,by simp⟩,rfl,rfl,rfl,rfl,rfl,fun i hi=>?_⟩
    · rw[evalAppend_tp,hr,hT]
      simp[appTp,onlyIf,h3,hb]
    · simp;omega
structure SameB (S S':St):Prop where
  B:S'.B=S.B
  nx:S'.nx=S.nx
  n:S'.n=S.n
  gl:S'.gl=S.gl
  md:S'.md=S.md
theorem LCall_T {P:Program}{f:FuncId}{ss:List SV}{r:SV}{S:St}{k:Nat}{L:List (Nat×List SV)} (h:LCall P f ss S r (leftS S k L [])):LCall P f ss S r { S with B:=leftF S.nx S.B L,nx:=S.nx+k }:=by
  refine⟨h.1,⟨h.2.1.n,h.2.1.md,h.2.1.gl,h.2.1.nx⟩,fun m0 w0 G E F a w vals hr hF hl hv=>?_⟩
  have e:leftS S k L []={ S with B:=leftF S.nx S.B L,nx:=S.nx+k }:=by
    have hT:(leftS S k L []).T=S.T:=funext fun x=>by
      simp only[leftS_T,leftF_nil]
      split
      · rfl
      · rename_i hx
        cases hb:S.T x with
        | none=>rfl
        | some p =>
          exfalso
          have hf:=hF x (by omega)
          obtain⟨k,sz⟩:=p
          obtain⟨B,v,_,_,cap,_,h1,_⟩:=hr.tip x k sz hb
          rw[(hr.fresh x hf).2] at h1;cases h1
    show ({ S with B:=leftF S.nx S.B L,T:=(leftS S k L []).T,nx:=S.nx+k }:St)=_
    rw[hT]
  have k:=h.2.2 m0 w0 G E F a w vals hr hF hl hv
  rw[e] at k
  exact k
theorem OwnK.left {P:Program}{g:FuncId}{ss:List SV}{S:St}{base top:Nat}{r:SV}{k:Nat}{L:List (Nat×List SV)} (h:∀ S1:St,S1.nx=S.nx→S1.gl=S.gl→LCall P g ss S1 r (leftS S1 k L [])) (ht:top≤S.nx) (hL:∀ p∈L,top≤p.1) :
    OwnK P g ss S base top r (fun B0=>leftF S.nx B0 L) (S.nx+k):=by
  have no:∀ q,q<top→lookN L q=none:=fun q hq=>by
    cases hx:lookN L q with
    | none=>rfl
    | some y=>have:=hL _ (lookN_mem hx);simp only at this;omega
  refine⟨fun S1 k1 k2 k3 k4 k5 k6=>?_,fun B0 q cs hq=>?_,fun B0 b hb=>?_,fun B0 C b hb=>?_⟩
  · have:=LCall_T (h S1 k2 k3)
    rw[k2] at this
    exact this
  · funext x
    simp only[upd]
    by_cases e:x=q
    · subst e
      rw[leftF_old (no x hq) (by omega)];simp
    · simp[leftF,upd,e]
  · exact leftF_old (no b hb) (by omega)
  · simp only[leftF,hb]
end Go.Proofs.YtlmpjblmmpddeaaGreat
namespace Go.Proofs.YtlmpjblmmpddeaaGreat
open Go.Sh
variable {gl:Nat→Option D}
def tyName:Typ→ByteArray | .mk t _ _=>t
def fldNext (l:List Def) (f:Fld):Option ByteArray:=if isReq f.ty=true∧kindL l (tyName f.ty)=3 then some (tyName f.ty) else none
def nextN (l:List Def) (s:ByteArray):List ByteArray:=if kindL l s=3 then (defL l s).flds.filterMap (fldNext l) else []
abbrev defNames (l:List Def):List ByteArray:=l.map Def.name
theorem kind_name {l:List Def}{s:ByteArray} (h:kindL l s≠0):s∈defNames l:=by
  cases ha:atD l s with
  | none=>exact absurd (by rw[kindL,defL_none ha];rfl) h
  | some j =>
    have:=List.findIdx?_eq_some_iff_getElem.1 ha
    obtain⟨h1,h2,_⟩:=this
    exact List.mem_map.2 ⟨_,List.getElem_mem h1,by simpa using h2⟩
theorem next_kind {l:List Def}{x y:ByteArray} (h:y∈nextN l x):kindL l x=3∧kindL l y=3:=by
  unfold nextN at h
  split at h
  · rename_i h1
    obtain⟨f,_,hf⟩:=List.mem_filterMap.1 h
    unfold fldNext at hf
    split at hf
    · rename_i h2;cases hf;exact⟨h1,h2.2⟩
    · cases hf
  · cases h
theorem next_name {l:List Def} (x y:ByteArray) (h:y∈nextN l x):y∈defNames l:=kind_name (by rw[(next_kind h).2];decide)
def knowF (l:List Def) (n:Nat) (k:List ByteArray) (fs:List Fld):List ByteArray:=(fs.filterMap (fldNext l)).foldl (fun k y=>if memB y k=true then k else needsG (nextN l) n y (k++[y])) k
def knowS (l:List Def) (n:Nat) (k:List ByteArray) (f:Fld):List ByteArray:=match fldNext l f with | some y=>if memB y k=true then k else needsG (nextN l) n y (k++[y]) | none=>k
theorem knowF_next {l:List Def}{n:Nat}{k:List ByteArray}{fs:List Fld}{i:Nat} (hi:i<fs.length):knowF l n k (fs.take (i+1))=knowS l n (knowF l n k (fs.take i)) fs[i]:=by
  unfold knowF knowS
  rw[List.take_succ_eq_append_getElem hi,List.filterMap_append,List.foldl_append]
  cases h:fldNext l fs[i] with
  | none=>simp[h]
  | some y=>simp[h]
theorem knowS_no {l:List Def}{n:Nat}{k:List ByteArray}{f:Fld} (h:¬ (isReq f.ty=true∧kindL l (tyName f.ty)=3)):knowS l n k f=k:=by unfold knowS fldNext;rw[if_neg h]
theorem knowS_in {l:List Def}{n:Nat}{k:List ByteArray}{f:Fld} (h:memB (tyName f.ty) k=true):knowS l n k f=k:=by
  unfold knowS fldNext
  by_cases c:isReq f.ty=true∧kindL l (tyName f.ty)=3
  · rw[if_pos c];simp only;rw[if_pos h]
  · rw[if_neg c]
theorem knowS_new {l:List Def}{n:Nat}{k:List ByteArray}{f:Fld} (h1:isReq f.ty=true) (h2:kindL l (tyName f.ty)=3) (h:memB (tyName f.ty) k=false):knowS l n k f=needsG (nextN l) n (tyName f.ty) (k++[tyName f.ty]):=by
  unfold knowS fldNext
  rw[if_pos ⟨h1,h2⟩];simp only;rw[if_neg (by simp[h])]
theorem needs_no {l:List Def}{n:Nat}{s:ByteArray}{k:List ByteArray} (h:kindL l s≠3):needsG (nextN l) (n+1) s k=k:=by
  rw[needsG]
  have:nextN l s=[]:=if_neg h
  rw[this];rfl
theorem needs_yes {l:List Def}{n:Nat}{s:ByteArray}{k:List ByteArray} (h:kindL l s=3):needsG (nextN l) (n+1) s k=knowF l n k (defL l s).flds:=by
  rw[needsG,nextN,if_pos h];rfl
theorem know_grew {l:List Def}{n:Nat}{s:ByteArray}{k:List ByteArray} (h:KnownIn (defNames l) k) (hl:(defNames l).length<n+1+k.length) (h3:kindL l s=3) (i:Nat):Grew (nextN l) (defNames l) s k (knowF l n k ((defL l s).flds.take i)):=by
  refine grew_part next_name h hl fun y hy=>?_
  rw[nextN,if_pos h3]
  obtain⟨f,hf,e⟩:=List.mem_filterMap.1 hy
  exact List.mem_filterMap.2 ⟨f,List.mem_of_mem_take hf,e⟩
theorem flds_small {l:List Def} (hd:∀ d∈l,defB d=true∧DefOk d) {s:ByteArray} (h:kindL l s≠0):DefOk (defL l s):=(hd _ (defL_mem h)).2
theorem look_kind (l:List Def) (s:ByteArray):∃ r,lookS Tryz.prog 72 (ksD l) (l.map (SV.d∘Def.d)) s false=some r∧fieldE Tryz.prog (some r) (some (3,1))=some (.d (dI (kindL l s)), .no):=by
  cases h:atD l s with
  | none=>exact⟨_,look_none h,by rw[kindL,defL_none h];kernel_rfl⟩
  | some j=>exact⟨_,look_some h,by simp[kindL]⟩
set_option maxHeartbeats 4000000 in
theorem p_needs (l:List Def) (hd:∀ d∈l,defB d=true∧DefOk d) (hll:l.length≤1000000):∀ (n:Nat) (s:ByteArray) (k:List ByteArray) (S0:St) (q:Nat),KnownIn (defNames l) k→(defNames l).length<n+k.length→q<S0.nx→S0.T q=some (k.length,1) →
    LCall Tryz.prog 114 [.d (schD l), .d (dS s), .tp q 0 (k.map dS) k.length] S0 (.tp q 0 ((needsG (nextN l) n s k).map dS) (needsG (nextN l) n s k).length) (leftS S0 0 [] [(q,((needsG (nextN l) n s k).length,1))])
  | 0,s,k,S0,q,hK,hl,hq,hT=>by
    have:=nodup_len hK.nodup hK.sub
    omega
  | n+1,s,k,S0,q,hK,hl,hq,hT=>by
    have ih:=p_needs l hd hll n
    have ne:∀ k,S0.nx≤k→¬ q=k:=fun k=>by omega
    have hkl:=nodup_len hK.nodup hK.sub
    have hdl:(defNames l).length=l.length:=by simp
    refine LCall.byE (md:=[]) (leftS_keeps _ _ _ _) (by simp[SV.lt]<;>omega) Tryz.func114 rfl (by kernel_rfl) (n:=53) Tryz.ntmps114 (by simp) (by decide) rfl ?_
    simp
    cases ha:atD l s with
    | none =>
      have hz:needsG (nextN l) (n+1) s k=k:=needs_no (by rw[kindL,defL_none ha];decide)
      refine⟨_,look_none ha,?_⟩
      simp[hz]
      refine elder_old (bs:=[]) (ts:=[q]) ?_ ?_ ?_ ?_ ?_ ?_ ?_
      · simp
      · simp
      · simp[hT]
      · simp
      · simp[hq]
      · simp
      · simp
    | some j =>
      refine⟨_,look_some ha,?_⟩
      have hkk:kindL l s=(defL l s).kind:=rfl
      simp
      refine BrT.dec (fun c3=>?_) (fun c3=>?_)
      · have c3:kindL l s=3:=by rw[hkk];omega
        have hz:needsG (nextN l) (n+1) s k=knowF l n k (defL l s).flds:=needs_yes c3
        have hsm:=(flds_small hd (s:=s) (by omega)).2.1.1
        have hgr:=know_grew hK hl c3
        simp
        refine⟨_,look_some ha,?_⟩
        have hc2:(defL l s).cells[2]?=some (fldsD (defL l s).flds):=rfl
        generalize (defL l s).flds=fs at hz hsm hgr hc2
        simp[hz,hc2]
        refine LoopT.round (fun E S=>∃ (i:Nat) (kn:List ByteArray),(i≤fs.length)∧E 0=some (.d (schD l))∧E 2=some (.tp q 0 (kn.map dS) kn.length)∧E 19=some (.d (fldsD fs))∧E 20=some (.d (dI fs.length))∧E 21=some (.d (dI i))∧(S.T q=some (kn.length,1))∧(Old S0 [] [q] S)∧(kn=knowF l n k (fs.take i))∧(S0.nx≤S.nx)) (upTo 21 fs.length) ⟨0,k,by simp[hT];rfl⟩ ?_
        rintro E S hk ⟨i,kn,hi,h0,h2,h19,h20,h21,hTq,ho,hkn,hx⟩
        have hn:S.n=53:=by first | (simpa using hk.n)|(have hh:=hk.n;simp[hT,c3,hz,hc2] at hh;exact hh)
        have hg:S.gl=S0.gl:=by first | (simpa using hk.gl)|(have hh:=hk.gl;simp[hT,c3,hz,hc2] at hh;exact hh)
        have hmd:S.md=[]:=by first | (simpa using hk.md)|(have hh:=hk.md;simp[hT,c3,hz,hc2] at hh;exact hh)
        simp[h20,h21,hn,hg]
        have w:=wrap64 (n:=(i:Int)+1) (by omega) (by omega)
        refine BrT.dec (fun c=>?_) (fun c=>?_)
        · have hi2:i<fs.length:=by omega
          have hlen:=flds_len fs
          have hfit:i*5+5≤fs.length*5:=by omega
          have hat:=flds_at fs hi2
          have hstep:=knowF_next (l:=l) (n:=n) (k:=k) hi2
          have hg1:=hgr i
          have hg2:=hgr (i+1)
          rw[hstep] at hg2
          rw[← hkn] at hstep hg1 hg2
          have hle1:=nodup_len hg1.inv.nodup hg1.inv.sub
          generalize fs[i]=f at hat hstep hg2
          obtain⟨nm,args,ty⟩:=f
          cases ty with
          | mk t lt b =>
          simp only[Fld.cells,Typ.cells] at hat
          simp[h19,h21,hn,c,hlen,hfit,hat]
          have same:knowS l n kn ⟨nm,args, .mk t lt b⟩=kn→kn=knowF l n k (fs.take (i+1)):=fun e=>by rw[hstep,e]
          refine BrT.mk (fun cb=>?_) (fun cb=>?_)
          case refine_2=>(have e:=same (knowS_no fun h=>by have:=h.1.symm.trans cb;cases this);simp[h0,h2,h19,h20,h21,hn,w,hTq,cb];exact⟨⟨i+1,hi2,kn,⟨rfl,rfl⟩,by omega,rfl,by rw[old_set (by omega),old_new (by omega)];exact ho,e,by omega⟩,upTo_lt h21 (by simp) hi2⟩)
          obtain⟨r,hr,hr2⟩:=look_kind l t
          simp[h0,hn,cb]
          refine⟨r,hr,?_⟩
          simp[hn,hr2]
          refine BrT.dec (fun ck=>?_) (fun ck=>?_)
          case refine_2=>(have e:=same (knowS_no fun h=>ck h.2);simp[h0,h2,h19,h20,h21,hn,w,hTq,ck];exact⟨⟨i+1,hi2,kn,⟨rfl,rfl⟩,by omega,rfl,by rw[old_set (by omega),old_new (by omega)];exact ho,e,by omega⟩,upTo_lt h21 (by simp) hi2⟩)
          simp[h2,hn,ck]
          repeat refine⟨DrawT.mk (by kernel_rfl),?_⟩
          refine CallT.p0 (p_Contains kn t (by omega)) (by first | rfl | (simp;done)|(simp[hT,c3,hz,hc2,h0,h2,h19,h20,h21,hn,hg,hmd,c,hi2,w,hlen,hfit,hat,hTq,cb,hr2,ck];done)) (by first | rfl | (simp;done)|(simp;rfl)|(simp[hT,c3,hz,hc2,h0,h2,h19,h20,h21,hn,hg,hmd,c,hi2,w,hlen,hfit,hat,hTq,cb,hr2,ck];done)) ?_
          simp[hn]
          refine BrT.mk (fun cm=>?_) (fun cm=>?_)
          case refine_1=>(have e:=same (knowS_in cm);simp[h0,h2,h19,h20,h21,hn,w,hTq,cm];exact⟨⟨i+1,hi2,kn,⟨rfl,rfl⟩,by omega,rfl,by rw[old_set (by omega),old_new (by omega)];exact ho,e,by omega⟩,upTo_lt h21 (by simp) hi2⟩)
          rw[knowS_new (f:=⟨nm,args, .mk t lt b⟩) cb ck cm] at hstep hg2
          simp only[tyName] at hstep hg2
          have hmem:¬ t∈kn:=fun h=>by rw[memB_iff.2 h] at cm;cases cm
          have hK2:KnownIn (defNames l) (kn++[t]):=hg1.inv.snoc (kind_name (by rw[ck];decide)) hmem
          have hle0:=hg1.len
          have hl2:(defNames l).length<n+(kn++[t]).length:=by simp only[List.length_append,List.length_singleton];omega
          simp[h0,h2,hn,hmd,hTq,cm]
          rw[show List.map dS kn++[D.v (Value.string t)]=(kn++[t]).map dS by simp,show kn.length+1=(kn++[t]).length by simp]
          refine⟨by unfold appBound;omega,CallT.l (ih t (kn++[t]) _ q hK2 hl2 ?_ ?_) rfl ?_⟩
          · simp;omega
          · simp
          simp[h0,h19,h20,h21,hn,w]
          refine⟨⟨i+1,hi2,_,⟨rfl,rfl⟩,by omega,rfl,?_,hstep.symm,by omega⟩,upTo_lt h21 (by simp) hi2⟩
          refine old_left (by simp;omega) (by simp) (by simp) ?_
          rw[old_tipIn (by simp)]
          simp only[old_adv]
          rw[old_set (by omega),old_new (by omega)]
          exact ho
        · have hi3:i=fs.length:=by omega
          subst hi3
          rw[List.take_length] at hkn
          simp[h2,hn,c]
          rw[← hkn]
          refine⟨⟨rfl,rfl⟩,?_⟩
          refine elder_old (bs:=[]) (ts:=[q]) ?_ ?_ ?_ ?_ ?_ ?_ ?_
          · exact ho
          · simp
          · simp[hTq]
          · simp
          · simp[hq]
          · simp
          · simp
      · have hz:needsG (nextN l) (n+1) s k=k:=needs_no (by rw[hkk];exact c3)
        simp[c3,hz]
        refine elder_old (bs:=[]) (ts:=[q]) ?_ ?_ ?_ ?_ ?_ ?_ ?_
        · simp
        · simp
        · simp[hT]
        · simp
        · simp[hq]
        · simp
        · simp
set_option maxHeartbeats 4000000 in
theorem p_needs0 (l:List Def) (hd:∀ d∈l,defB d=true∧DefOk d) (hll:l.length≤1000000) (S0:St) (s:ByteArray) :
    LCall Tryz.prog 114 [.d (schD l), .d (dS s), .fl [] 0] S0 (.d (namesD (needsG (nextN l) (l.length+1) s []))) (leftS S0 0 [] []):=by
    have hdl:(defNames l).length=l.length:=by simp
    have ih:=p_needs l hd hll l.length
    have hK:KnownIn (defNames l) []:=⟨by simp,by simp⟩
    have hl:(defNames l).length<l.length+1+([]:List ByteArray).length:=by simp
    refine LCall.byD (md:=[]) (leftS_keeps _ _ _ _) Tryz.func114 rfl (by kernel_rfl) (n:=53) Tryz.ntmps114 (by simp) (by decide) rfl ?_
    simp
    cases ha:atD l s with
    | none =>
      have hz:needsG (nextN l) (l.length+1) s []=[]:=needs_no (by rw[kindL,defL_none ha];decide)
      refine⟨_,look_none ha,?_⟩
      simp[hz]
      refine elder_old (bs:=[]) (ts:=[]) (Old.refl _ _ _) (by simp) (by simp) (by simp) (by simp) (by simp) (by simp)
    | some j =>
      refine⟨_,look_some ha,?_⟩
      have hkk:kindL l s=(defL l s).kind:=rfl
      simp
      refine BrT.dec (fun c3=>?_) (fun c3=>?_)
      · have c3:kindL l s=3:=by rw[hkk];omega
        have hz:needsG (nextN l) (l.length+1) s []=knowF l l.length [] (defL l s).flds:=needs_yes c3
        have hsm:=(flds_small hd (s:=s) (by omega)).2.1.1
        have hgr:=know_grew hK hl c3
        simp
        refine⟨_,look_some ha,?_⟩
        have hc2:(defL l s).cells[2]?=some (fldsD (defL l s).flds):=rfl
        generalize (defL l s).flds=fs at hz hsm hgr hc2
        simp[hz,hc2]
        refine LoopT.round (fun E S=>∃ (i:Nat) (X:SV) (kn:List ByteArray),(i≤fs.length)∧E 0=some (.d (schD l))∧E 2=some (X)∧E 19=some (.d (fldsD fs))∧E 20=some (.d (dI fs.length))∧E 21=some (.d (dI i))∧(AccN S0 S X kn)∧(Old S0 [] [] S)∧(kn=knowF l l.length [] (fs.take i))∧(S0.nx≤S.nx)) (upTo 21 fs.length) ⟨0, .fl [] 0,[],by simp;exact⟨AccN.nil,rfl⟩⟩ ?_
        rintro E S hk ⟨i,X,kn,hi,h0,h2,h19,h20,h21,hA,ho,hkn,hx⟩
        have hn:S.n=53:=by first | (simpa using hk.n)|(have hh:=hk.n;simp[c3,hz,hc2] at hh;exact hh)
        have hg:S.gl=S0.gl:=by first | (simpa using hk.gl)|(have hh:=hk.gl;simp[c3,hz,hc2] at hh;exact hh)
        have hmd:S.md=[]:=by first | (simpa using hk.md)|(have hh:=hk.md;simp[c3,hz,hc2] at hh;exact hh)
        simp[h20,h21,hn,hg]
        have w:=wrap64 (n:=(i:Int)+1) (by omega) (by omega)
        refine BrT.dec (fun c=>?_) (fun c=>?_)
        · have hi2:i<fs.length:=by omega
          have hlen:=flds_len fs
          have hfit:i*5+5≤fs.length*5:=by omega
          have hat:=flds_at fs hi2
          have hstep:=knowF_next (l:=l) (n:=l.length) (k:=[]) hi2
          have hg1:=hgr i
          have hg2:=hgr (i+1)
          rw[hstep] at hg2
          rw[← hkn] at hstep hg1 hg2
          have hle1:=nodup_len hg1.inv.nodup hg1.inv.sub
          generalize fs[i]=f at hat hstep hg2
          obtain⟨nm,args,ty⟩:=f
          cases ty with
          | mk t lt b =>
          simp only[Fld.cells,Typ.cells] at hat
          have hXd:=hA.toD
          simp[h19,h21,hn,c,hlen,hfit,hat]
          have same:knowS l l.length kn ⟨nm,args, .mk t lt b⟩=kn→kn=knowF l l.length [] (fs.take (i+1)):=fun e=>by rw[hstep,e]
          refine BrT.mk (fun cb=>?_) (fun cb=>?_)
          case refine_2=>(have e:=same (knowS_no fun h=>by have:=h.1.symm.trans cb;cases this);simp[h0,h2,h19,h20,h21,hn,w,cb];exact⟨⟨i+1,hi2,by omega,kn,hA.mono (by simp<;>omega) (fun _ _=>rfl),by rw[old_set (by omega),old_new (by omega)];exact ho,e,by omega⟩,upTo_lt h21 (by simp) hi2⟩)
          obtain⟨r,hr,hr2⟩:=look_kind l t
          simp[h0,hn,cb]
          refine⟨r,hr,?_⟩
          simp[hn,hr2]
          refine BrT.dec (fun ck=>?_) (fun ck=>?_)
          case refine_2=>(have e:=same (knowS_no fun h=>ck h.2);simp[h0,h2,h19,h20,h21,hn,w,ck];exact⟨⟨i+1,hi2,by omega,kn,hA.mono (by simp<;>omega) (fun _ _=>rfl),by rw[old_set (by omega),old_new (by omega)];exact ho,e,by omega⟩,upTo_lt h21 (by simp) hi2⟩)
          simp[h2,hn,ck]
          repeat refine⟨DrawT.mk (by kernel_rfl),?_⟩
          refine CallT.p0 (p_Contains kn t (by omega)) (by first | rfl | (simp;done)|(simp[c3,hz,hc2,h0,h2,h19,h20,h21,hn,hg,hmd,c,hi2,w,hlen,hfit,hat,hXd,cb,hr2,ck];done)) (by first | rfl | (simp;done)|(simp;rfl)|(simp[hXd];done)) ?_
          simp[hn]
          refine BrT.mk (fun cm=>?_) (fun cm=>?_)
          case refine_1=>(have e:=same (knowS_in cm);simp[h0,h2,h19,h20,h21,hn,w,cm];exact⟨⟨i+1,hi2,by omega,kn,hA.mono (by simp<;>omega) (fun _ _=>rfl),by rw[old_set (by omega),old_new (by omega)];exact ho,e,by omega⟩,upTo_lt h21 (by simp) hi2⟩)
          rw[knowS_new (f:=⟨nm,args, .mk t lt b⟩) cb ck cm] at hstep hg2
          simp only[tyName] at hstep hg2
          have hmem:¬ t∈kn:=fun h=>by rw[memB_iff.2 h] at cm;cases cm
          have hK2:KnownIn (defNames l) (kn++[t]):=hg1.inv.snoc (kind_name (by rw[ck];decide)) hmem
          have hle0:=hg1.len
          have hl2:(defNames l).length<l.length+(kn++[t]).length:=by simp only[List.length_append,List.length_singleton];omega
          rcases hA with ⟨rfl,rfl⟩ | ⟨q,hq0,hq1,rfl,hTq⟩
          · simp[h0,h2,hn,hmd,cm]
            have hq0:S0.nx≤S.nx+1+4+4+16+5:=by omega
            refine⟨by decide,CallT.l (ih t [t] _ (S.nx+1+4+4+16+5) hK2 hl2 ?_ ?_) rfl ?_⟩
            · simp
            · simp
            simp[h0,h19,h20,h21,hn,w]
            refine⟨⟨i+1,hi2,by omega,_, .inr ⟨_,hq0,?_,rfl,?_⟩,?_,hstep.symm,by omega⟩,upTo_lt h21 (by simp) hi2⟩
            · simp<;>omega
            · simp
            refine old_left (by simp;omega) (by simp) (by simp;omega) ?_
            rw[old_tip (by omega)]
            simp only[old_adv]
            rw[old_set (by omega),old_new (by omega)]
            exact ho
          · simp[h0,h2,hn,hmd,cm,hTq]
            rw[show List.map dS kn++[D.v (Value.string t)]=(kn++[t]).map dS by simp,show kn.length+1=(kn++[t]).length by simp]
            refine⟨by unfold appBound;omega,CallT.l (ih t (kn++[t]) _ q hK2 hl2 ?_ ?_) rfl ?_⟩
            · simp<;>omega
            · simp
            simp[h0,h19,h20,h21,hn,w]
            refine⟨⟨i+1,hi2,by omega,_, .inr ⟨_,hq0,?_,rfl,?_⟩,?_,hstep.symm,by omega⟩,upTo_lt h21 (by simp) hi2⟩
            · simp<;>omega
            · simp
            refine old_left (by simp;omega) (by simp) (by simp;omega) ?_
            rw[old_tip (by omega)]
            simp only[old_adv]
            rw[old_set (by omega),old_new (by omega)]
            exact ho
        · have hi3:i=fs.length:=by omega
          subst hi3
          rw[List.take_length] at hkn
          simp[h2,hn,c]
          rw[← hkn]
          refine⟨hA.toD,?_⟩
          refine elder_old (bs:=[]) (ts:=[]) ho (by simp) (by simp) (by simp) (by simp) (by simp) (by simp)
      · have hz:needsG (nextN l) (l.length+1) s []=[]:=needs_no (by rw[hkk];exact c3)
        simp[c3,hz]
        refine elder_old (bs:=[]) (ts:=[]) (Old.refl _ _ _) (by simp) (by simp) (by simp) (by simp) (by simp) (by simp)
theorem LCall_same {P:Program}{f:FuncId}{ss:List SV}{r:SV}{S:St} (h:LCall P f ss S r (leftS S 0 [] [])):LCall P f ss S r S:=by
  refine⟨h.1,Keeps.refl _,fun m0 w0 G E F a w vals hr hF hl hv=>?_⟩
  have e:leftS S 0 [] []=S:=by
    have hB:(leftS S 0 [] []).B=S.B:=funext fun x=>by
      simp only[leftS_B,leftF_nil]
      split
      · rfl
      · rename_i hx
        cases hb:S.B x with
        | none=>rfl
        | some cs =>
          exfalso
          have hf:=hF x (by omega)
          have ho:=hr.more.ofresh x hf
          obtain⟨B,_,_,h1,_⟩:=hr.box x cs hb ho
          rw[(hr.fresh x hf).1] at h1;cases h1
    have hT:(leftS S 0 [] []).T=S.T:=funext fun x=>by
      simp only[leftS_T,leftF_nil]
      split
      · rfl
      · rename_i hx
        cases hb:S.T x with
        | none=>rfl
        | some p =>
          exfalso
          have hf:=hF x (by omega)
          obtain⟨k,sz⟩:=p
          obtain⟨B,v,_,_,cap,_,h1,_⟩:=hr.tip x k sz hb
          rw[(hr.fresh x hf).2] at h1;cases h1
    show ({ S with B:=(leftS S 0 [] []).B,T:=(leftS S 0 [] []).T,nx:=S.nx+0 }:St)=S
    rw[hB,hT];rfl
  have k:=h.2.2 m0 w0 G E F a w vals hr hF hl hv
  rw[e] at k
  exact k
theorem OwnK.data {P:Program}{g:FuncId}{ss:List SV}{S:St}{base top:Nat}{x:D} (h:∀ S1:St,S1.gl=S.gl→LCall P g ss S1 (.d x) S1):OwnK P g ss S base top (.d x) (fun B=>B) S.nx where
  call S1 _ h2 h3 _ _ _:=by
    have e:({ S1 with B:=S1.B,nx:=S.nx }:St)=S1:=by rw[← h2]
    rw[e];exact h S1 h3
  loc _ _ _ _:=rfl
  keep _ _ _:=rfl
  pw _ _ _ e:=e
theorem needs_len (l:List Def) (s:ByteArray):(needsG (nextN l) (l.length+1) s []).length≤4611686018427387904∨4611686018427387904<l.length:=by
  have h:=(needs_grew (nx:=nextN l) (U:=defNames l) next_name (l.length+1) s [] ⟨by simp,by simp⟩ (by simp)).1.inv
  have:=nodup_len h.nodup h.sub
  simp at this
  omega
set_option maxHeartbeats 2000000 in
theorem p_round1 (l:List Def) (hd:∀ d∈l,defB d=true∧DefOk d) (hll:l.length≤1000000) (d:Def):PCall Tryz.prog gl 112 [d.d, .pp [schD l] 0] (dB (!memB d.name (needsG (nextN l) (l.length+1) d.name []))):=by
  obtain⟨nm,kind,flds,words⟩:=d
  refine PCall.by_ (md:=[]) Tryz.func112 rfl (by kernel_rfl) (n:=12) Tryz.ntmps112 (by simp) (by decide) rfl ?_
  simp[Def.cells]
  refine⟨DrawT.mk (by kernel_rfl),?_⟩
  refine CallT.own [((5,2),3)] (by kernel_rfl) (by kernel_rfl) (by simp[Eh.e]) (OwnK.data fun S1 _=>LCall_same (p_needs0 l hd hll S1 nm)) ?_
  simp
  repeat refine⟨DrawT.mk (by kernel_rfl),?_⟩
  refine CallT.p0 (p_Contains (needsG (nextN l) (l.length+1) nm []) nm ((needs_len l nm).resolve_right (by omega))) (by first | rfl | (simp;done)|(simp[Def.cells];done)) (by first | rfl | (simp;done)|(simp;rfl)|(simp[Def.cells];done)) ?_
  simp
set_option maxHeartbeats 2000000 in
theorem p_hasRound (l:List Def) (hd:∀ d∈l,defB d=true∧DefOk d) (hll:l.length≤1000000):PCall Tryz.prog gl 52 [schD l] (dB (l.any fun d=>memB d.name (needsG (nextN l) (l.length+1) d.name []))):=by
  have h:=p_eachDef (gl:=gl) l 112 [.pp [schD l] 0] (fun d=>!memB d.name (needsG (nextN l) (l.length+1) d.name [])) fun d hm=>p_round1 l hd hll d
  have e:(l.any fun d=>memB d.name (needsG (nextN l) (l.length+1) d.name [])) = !(l.all fun d=>!memB d.name (needsG (nextN l) (l.length+1) d.name [])):=by
    rw[List.all_eq_not_any_not];simp
  rw[e]
  refine PCall.by_ (md:=[]) Tryz.func52 rfl (by kernel_rfl) (n:=7) Tryz.ntmps52 (by simp) (by decide) rfl ?_
  simp
  refine CallT.l (LCall.ofP (k:=9) h (by simp)) rfl ?_
  simp
theorem schGo_len:∀ (r acc:List Def),(schGo acc r).length≤acc.length+r.length∧((schGo acc r).length=acc.length+r.length→schGo acc r=acc++r)
  | [],acc=>by simp[schGo]
  | d::r,acc=>by
    unfold schGo
    split
    · obtain⟨h1,h2⟩:=schGo_len r (acc++[d])
      simp at h1 h2 ⊢
      exact⟨by omega,fun h=>h2 (by omega)⟩
    · obtain⟨h1,h2⟩:=schGo_len r acc
      simp at h1 ⊢
      exact⟨by omega,fun h=>by omega⟩
theorem schL_self {l:List Def} (h:(schL l).length=l.length):schL l=l:=by
  have:=(schGo_len l []).2 (by simpa[schL] using h)
  simpa[schL] using this
def roundB (l:List Def):Bool:=l.any fun d=>memB d.name (needsG (nextN l) (l.length+1) d.name [])
def checkS (l:List Def):Int :=
  if ¬ (schL l).length=l.length then 2 else if ¬ (l.all (defHere l))=true then 3 else if ¬ (l.all (defPlaced l))=true then 4 else if ¬ rootsB l=true then 5 else if ¬ (l.all (defFits l))=true then 6 else if roundB l=true then 7 else 0
def checkB (l:List Def):Int:=if 10<l.length then 1 else if ¬ (l.all defB)=true then 1 else checkS l
set_option maxHeartbeats 4000000 in
theorem p_SchemaCheck (l:List Def) (hl:l.length≤4611686018427387904) (hok:∀ d∈l,DefOk d):PCall Tryz.prog gl 14 [defsD l] (dI (checkB l)):=by
  refine PCall.by_ (md:=[]) Tryz.func14 rfl (by kernel_rfl) (n:=46) Tryz.ntmps14 (by simp) (by decide) rfl ?_
  simp
  refine BrT.dec (fun c0=>?_) (fun c0=>?_)
  · have hz:checkB l=1:=if_pos (by omega)
    simp[c0,hz]
  have hl10:¬ 10<l.length:=by omega
  have hz0:checkB l=if ¬ (l.all defB)=true then 1 else checkS l:=if_neg hl10
  simp[c0]
  refine LoopT.round (fun E S=>∃ (i:Nat),(i≤l.length)∧E 0=some (.d (defsD l))∧E 9=some (.d (defsD l))∧E 10=some (.d (dI l.length))∧E 11=some (.d (dI i))∧(allUp defB l i)) (upTo 11 l.length) ⟨0,by simp;exact allUp_zero _ _⟩ ?_
  rintro E S hk ⟨i,hi,h0,h9,h10,h11,hp⟩
  have hn:S.n=46:=by first | (simpa using hk.n)|(have hh:=hk.n;simp[c0] at hh;exact hh)
  have hg:S.gl=gl:=by first | (simpa using hk.gl)|(have hh:=hk.gl;simp[c0] at hh;exact hh)
  have hmd:S.md=[]:=by first | (simpa using hk.md)|(have hh:=hk.md;simp[c0] at hh;exact hh)
  simp[h10,h11,hn,hg]
  have w:=wrap64 (n:=(i:Int)+1) (by omega) (by omega)
  refine BrT.dec (fun c=>?_) (fun c=>?_)
  · have hi2:i<l.length:=by omega
    have hlen:=defs_len l
    have hfit:i*4+4≤l.length*4:=by omega
    have hN:=hok _ (List.getElem_mem hi2)
    have bad:=all_bad (p:=defB) hi2
    have good:=all_take (p:=defB) hi2 hp
    have hat:=defs_at l hi2
    generalize l[i]=d at hN bad good hat
    have hF:=p_defForm (gl:=gl) d hN
    obtain⟨nm,kind,flds,words⟩:=d
    simp only[Def.cells] at hat
    simp[h9,h11,hn,c,hlen,hfit,hat]
    repeat refine⟨DrawT.mk (by kernel_rfl),?_⟩
    refine CallT.p0 (hF) (by first | rfl | (simp;done)|(simp[hg];done)) (by first | rfl | (simp;done)|(simp;rfl)|(simp[c0,h0,h9,h10,h11,hn,hg,hmd,c,hi2,w,hlen,hfit,hat];done)) ?_
    simp[hn]
    refine BrT.mk (fun c1=>?_) (fun c1=>?_)
    case refine_2=>(have hz:checkB l=1:=(by rw[hz0,if_pos (by rw[bad c1];decide)]);simp[hn,c1,hz])
    simp[h0,h9,h10,h11,hn,w,c1]
    exact⟨⟨i+1,hi2,by omega,good c1⟩,upTo_lt h11 (by simp) hi2⟩
  · have hi3:i=l.length:=by omega
    subst hi3
    have hall:=allUp_all hp
    have hz1:checkB l=checkS l:=by rw[hz0,if_neg (by rw[hall];decide)]
    have hdall:∀ d∈l,defB d=true∧DefOk d:=fun d hm=>⟨List.all_eq_true.1 hall d hm,hok d hm⟩
    simp[h0,hn,c]
    repeat refine⟨DrawT.mk (by kernel_rfl),?_⟩
    refine CallT.p0 (p_schemaOf l (by omega)) (by first | rfl | (simp;done)|(simp[c0,h0,h9,h10,h11,hn,hg,hmd,c];done)) (by first | rfl | (simp;done)|(simp;rfl)|(simp[c0,h0,h9,h10,h11,hn,hg,hmd,c];done)) ?_
    simp[h0,hn,hg]
    unfold checkS at hz1
    refine BrT.dec (fun t1=>?_) (fun t1=>?_)
    case refine_2=>(rw[if_pos (fun e=>t1 (by omega))] at hz1;simp[hn,t1,hz1])
    have t1:(schL l).length=l.length:=by omega
    have hs:=schL_self t1
    rw[if_neg (fun e=>e t1)] at hz1
    rw[hs]
    simp[hn]
    repeat refine⟨DrawT.mk (by kernel_rfl),?_⟩
    refine CallT.p0 (p_allThere l (fun d hm=>(hdall d hm).2) (fun d hm=>(hdall d hm).1)) (by first | rfl | (simp;done)|(simp[c0,h0,h9,h10,h11,hn,hg,hmd,c,t1];done)) (by first | rfl | (simp;done)|(simp;rfl)|(simp[c0,h0,h9,h10,h11,hn,hg,hmd,c,t1];done)) ?_
    simp[hn]
    refine BrT.mk (fun t2=>?_) (fun t2=>?_)
    case refine_2=>(rw[if_pos (by rw[t2];decide)] at hz1;simp[hn,t2,hz1])
    rw[if_neg (fun e=>e t2)] at hz1
    simp[hn,t2]
    repeat refine⟨DrawT.mk (by kernel_rfl),?_⟩
    refine CallT.p0 (p_allPlaced l (fun d hm=>(hdall d hm).2) (fun d hm=>(hdall d hm).1)) (by first | rfl | (simp;done)|(simp[c0,h0,h9,h10,h11,hn,hg,hmd,c,t1,t2];done)) (by first | rfl | (simp;done)|(simp;rfl)|(simp[c0,h0,h9,h10,h11,hn,hg,hmd,c,t1,t2];done)) ?_
    simp[hn]
    refine BrT.mk (fun t3=>?_) (fun t3=>?_)
    case refine_2=>(rw[if_pos (by rw[t3];decide)] at hz1;simp[hn,t3,hz1])
    rw[if_neg (fun e=>e t3)] at hz1
    simp[hn,t3]
    repeat refine⟨DrawT.mk (by kernel_rfl),?_⟩
    refine CallT.p0 (p_hasRoots l) (by first | rfl | (simp;done)|(simp[c0,h0,h9,h10,h11,hn,hg,hmd,c,t1,t2,t3];done)) (by first | rfl | (simp;done)|(simp;rfl)|(simp[c0,h0,h9,h10,h11,hn,hg,hmd,c,t1,t2,t3];done)) ?_
    simp[hn]
    refine BrT.mk (fun t4=>?_) (fun t4=>?_)
    case refine_2=>(rw[if_pos (by rw[t4];decide)] at hz1;simp[hn,t4,hz1])
    rw[if_neg (fun e=>e t4)] at hz1
    simp[hn,t4]
    repeat refine⟨DrawT.mk (by kernel_rfl),?_⟩
    refine CallT.p0 (p_elsesFit l hdall) (by first | rfl | (simp;done)|(simp[c0,h0,h9,h10,h11,hn,hg,hmd,c,t1,t2,t3,t4];done)) (by first | rfl | (simp;done)|(simp;rfl)|(simp[c0,h0,h9,h10,h11,hn,hg,hmd,c,t1,t2,t3,t4];done)) ?_
    simp[hn]
    refine BrT.mk (fun t5=>?_) (fun t5=>?_)
    case refine_2=>(rw[if_pos (by rw[t5];decide)] at hz1;simp[hn,t5,hz1])
    rw[if_neg (fun e=>e t5)] at hz1
    simp[hn,t5]
    repeat refine⟨DrawT.mk (by kernel_rfl),?_⟩
    refine CallT.p0 (p_hasRound l hdall (by omega)) (by first | rfl | (simp;done)|(simp[c0,h0,h9,h10,h11,hn,hg,hmd,c,t1,t2,t3,t4,t5];done)) (by first | rfl | (simp;done)|(simp;rfl)|(simp[c0,h0,h9,h10,h11,hn,hg,hmd,c,t1,t2,t3,t4,t5];done)) ?_
    simp[hn]
    have hz2:checkB l=if roundB l=true then 7 else 0:=hz1
    have e:(l.any fun d=>memB d.name (needsG (nextN l) (l.length+1) d.name []))=roundB l:=rfl
    rw[e]
    refine BrT.mk (fun t6=>?_) (fun t6=>?_)
    case refine_2=>(rw[if_neg (by rw[t6];decide)] at hz2;simp[hn,t6,hz2])
    rw[if_pos t6] at hz2
    simp[hn,t6,hz2]
def ofN:Typ→List Typ | .mk _ l _=>l
def roundZ (l:List Def):Nat→ByteArray→Bool
  | 0,s=>decide (kindL l s=3)
  | m+1,s=>decide (kindL l s=3)&&(defL l s).flds.any fun f=>isReq f.ty&&(decide ((ofN f.ty).length=0)&&roundZ l m (tyName f.ty))
def fldRound (l:List Def) (m:Nat) (f:Fld):Bool:=isReq f.ty&&(decide ((ofN f.ty).length=0)&&roundZ l m (tyName f.ty))
set_option maxHeartbeats 4000000 in
theorem p_l2Round (l:List Def) (hl:l.length≤1000000) (hok:∀ d∈l,DefOk d):∀ (m:Nat) (s:ByteArray),m≤l.length+1→PCall Tryz.prog gl 59 [defsD l,dS s,dI ((l.length+1 - m:Nat):Int)] (dB (roundZ l m s)):=by
  intro m
  induction m with
  | zero =>
    intro s hm
    have hz:roundZ l 0 s=decide (kindL l s=3):=rfl
    refine PCall.by_ (md:=[]) Tryz.func59 rfl (by kernel_rfl) (n:=62) Tryz.ntmps59 (by simp) (by decide) rfl ?_
    simp[hz]
    repeat refine⟨DrawT.mk (by kernel_rfl),?_⟩
    refine CallT.p0 (p_l2At l s (by omega)) (by first | rfl | (simp;done)|(simp[hz];done)) (by first | rfl | (simp;done)|(simp;rfl)|(simp[hz];done)) ?_
    simp
    cases ha:atD l s with
    | none =>
      have hz1:atZ l s = -1:=by unfold atZ;rw[ha]
      have hk:kindL l s=0:=by rw[kindL,defL_none ha];rfl
      simp[hz1,hk]
    | some j =>
      have hz1:atZ l s=j:=by unfold atZ;rw[ha]
      have hj:=atD_lt ha
      have hlen:=defs_len l
      have hfit:j*4+4≤l.length*4:=by omega
      have hat:=defs_at l hj
      have hkk:kindL l s=(defL l s).kind:=rfl
      rw[defL_some ha] at hkk
      generalize l[j]=d at hat hkk
      obtain⟨dn,kind,fs,words⟩:=d
      simp only at hkk
      simp only[Def.cells] at hat
      have hat_1:=row_get hat 1 (by decide) rfl
      have hat_1'':=(List.getElem?_eq_some_iff.1 hat_1).2
      have hat_1':j*4+1<_:=Nat.lt_of_lt_of_le (by omega) hfit
      have hneg:¬ ((j:Int)<0):=by omega
      have hlt:((l.length:Int)<(l.length:Int)+1):=by omega
      simp[hat_1',hat_1'',hz1,hneg,hj,hlen,hkk]
      refine BrT.dec (fun k3=>?_) (fun k3=>?_)
      · simp[hlt,k3]
      · simp[k3]
  | succ m ih =>
    intro s hm
    obtain⟨dp,hdp,hdq⟩:∃ dp,l.length+1 - (m+1)=dp∧dp+m=l.length:=⟨l.length - m,by omega,by omega⟩
    rw[hdp]
    have ih:=fun s=>ih s (by omega)
    rw[show l.length+1 - m=dp+1 by omega] at ih
    have hz:roundZ l (m+1) s=(decide (kindL l s=3)&&(defL l s).flds.any (fldRound l m)):=rfl
    refine PCall.by_ (md:=[]) Tryz.func59 rfl (by kernel_rfl) (n:=62) Tryz.ntmps59 (by simp) (by decide) rfl ?_
    simp
    repeat refine⟨DrawT.mk (by kernel_rfl),?_⟩
    refine CallT.p0 (p_l2At l s (by omega)) (by first | rfl | (simp;done)|(simp;done)) (by first | rfl | (simp;done)|(simp;rfl)|(simp;done)) ?_
    simp
    cases ha:atD l s with
    | none =>
      have hz1:atZ l s = -1:=by unfold atZ;rw[ha]
      have hk:kindL l s=0:=by rw[kindL,defL_none ha];rfl
      simp[hz1,hk,hz]
    | some j =>
      have hz1:atZ l s=j:=by unfold atZ;rw[ha]
      have hj:=atD_lt ha
      have hlen:=defs_len l
      have hfit:j*4+4≤l.length*4:=by omega
      have hat:=defs_at l hj
      have hkk:kindL l s=(defL l s).kind:=rfl
      have hok1:=(hok _ (List.getElem_mem hj)).2.1.1
      rw[defL_some ha] at hkk
      rw[defL_some ha] at hz
      generalize l[j]=d at hat hkk hz hok1
      obtain⟨dn,kind,fs,words⟩:=d
      simp only at hkk hz hok1
      simp only[Def.cells] at hat
      have hat_1:=row_get hat 1 (by decide) rfl
      have hat_1'':=(List.getElem?_eq_some_iff.1 hat_1).2
      have hat_1':j*4+1<_:=Nat.lt_of_lt_of_le (by omega) hfit
      have hat_2:=row_get hat 2 (by decide) rfl
      have hat_2'':=(List.getElem?_eq_some_iff.1 hat_2).2
      have hat_2':j*4+2<_:=Nat.lt_of_lt_of_le (by omega) hfit
      have hneg:¬ ((j:Int)<0):=by omega
      have hlt:¬ (l.length<dp):=by omega
      have wd:IntKind.i64.wrap ((dp:Int)+1)=((dp+1:Nat):Int):=wrap64 (n:=(dp:Int)+1) (by omega) (by omega)
      simp[hat_1',hat_1'',hz1,hneg,hj,hlen]
      refine BrT.dec (fun k3=>?_) (fun k3=>?_)
      case refine_2=>simp[hkk,k3,hz]
      simp[hlt,k3]
      refine LoopT.round (fun E S=>∃ (i:Nat),(i≤fs.length)∧E 0=some (.d (defsD l))∧E 1=some (.d (dS s))∧E 2=some (.d (dI dp))∧E 7=some (.d (dI j))∧E 8=some (.d (dI i))∧(noUp (fldRound l m) fs i)) (upTo 8 fs.length) ⟨0,by simp;exact noUp_zero _ _⟩ ?_
      rintro E S hk ⟨i,hi,h0,h1,h2,h7,h8,hp⟩
      have hn:S.n=62:=by first | (simpa using hk.n)|(have hh:=hk.n;simp[hat_1,hat_1',hat_1'',hat_2,hat_2',hat_2'',hz1,hneg,hj,hlen,hkk,hlt,k3] at hh;exact hh)
      have hg:S.gl=gl:=by first | (simpa using hk.gl)|(have hh:=hk.gl;simp[hat_1,hat_1',hat_1'',hat_2,hat_2',hat_2'',hz1,hneg,hj,hlen,hkk,hlt,k3] at hh;exact hh)
      have hmd:S.md=[]:=by first | (simpa using hk.md)|(have hh:=hk.md;simp[hat_1,hat_1',hat_1'',hat_2,hat_2',hat_2'',hz1,hneg,hj,hlen,hkk,hlt,k3] at hh;exact hh)
      simp[hat_2',hat_2'',hj,hlen,h0,h7,h8,hn,hg]
      have w:=wrap64 (n:=(i:Int)+1) (by omega) (by omega)
      refine BrT.dec (fun c=>?_) (fun c=>?_)
      · have hi2:i<fs.length:=by omega
        have flen:=flds_len fs
        have ffit:i*5+5≤fs.length*5:=by omega
        have fat:=flds_at fs hi2
        have yes:=any_at (p:=fldRound l m) hi2
        have step:=noUp_next hi2 hp
        generalize fs[i]=f at fat yes step
        obtain⟨fn,args,fty⟩:=f
        cases fty with
        | mk ft flt fb =>
        simp only[Fld.cells,Typ.cells] at fat
        have hrd:fldRound l m ⟨fn,args, .mk ft flt fb⟩=(fb&&(decide (flt.length=0)&&roundZ l m ft)):=rfl
        rw[hrd] at yes step
        have ih:=ih ft
        have fat_2_3:=row_sub fat 2 3 (by decide)
        have fat_2_3':i*5+2+3≤_:=Nat.le_trans (by omega) ffit
        simp[hat_2',hat_2'',hj,hlen,h0,h7,h8,hn,c,fat_2_3,fat_2_3',flen]
        refine BrT.mk (fun c1=>?_) (fun c1=>?_)
        case refine_2=>(rw[c1] at step;simp[h0,h1,h2,h7,h8,hn,w,c1];exact⟨⟨i+1,hi2,by omega,step rfl⟩,upTo_lt h8 (by simp) hi2⟩)
        rw[c1,Bool.true_and] at yes step
        simp[hn,c1]
        refine BrT.dec (fun c2=>?_) (fun c2=>?_)
        case refine_2=>(rw[decide_eq_false (by simpa using c2)] at step;simp[h0,h1,h2,h7,h8,hn,w,c2];exact⟨⟨i+1,hi2,by omega,step rfl⟩,upTo_lt h8 (by simp) hi2⟩)
        rw[decide_eq_true (by simpa using c2),Bool.true_and] at yes step
        simp[h0,h2,hn,wd,c2]
        repeat refine⟨DrawT.mk (by kernel_rfl),?_⟩
        refine CallT.p0 (ih) (by first | rfl | (simp;done)|(simp[hg];done)) (by first | rfl | (simp;done)|(simp;rfl)|(simp[hat_1,hat_1',hat_1'',hat_2,hat_2',hat_2'',hz1,hneg,hj,hlen,hkk,hlt,k3,h0,h1,h2,h7,h8,hn,hg,hmd,c,fat_2_3,fat_2_3',hi2,w,flen,ffit,fat,wd,c1,c2];done)) ?_
        simp[hn]
        refine BrT.mk (fun c3=>?_) (fun c3=>?_)
        · have hq:=yes c3
          rw[hq] at hz
          simp[hkk,k3,hn,c3,hz]
        · rw[c3] at step
          simp[h0,h1,h2,h7,h8,hn,w,c3]
          exact⟨⟨i+1,hi2,by omega,step rfl⟩,upTo_lt h8 (by simp) hi2⟩
      · have hi3:i=fs.length:=by omega
        subst hi3
        rw[noUp_all hp] at hz
        simp[hkk,k3,hn,c,hz]
theorem else_tw {a:Arg} (h:argB a=true) (hh:a.has=true):TW a.els:=by
  unfold argB elseB at h
  rw[hh,if_pos rfl,Bool.and_eq_true] at h
  exact tw_of _ _ _ h.2
set_option maxHeartbeats 4000000 in
theorem p_l2Else (l:List Def) (hL:l.length≤1000000) (hd:∀ d∈l,defB d=true∧DefOk d):PCall Tryz.prog gl 58 [defsD l] (dB (l.all (defFits l))):=by
  obtain⟨z,hz⟩:∃ z,l.all (defFits l)=z:=⟨_,rfl⟩
  rw[hz]
  refine PCall.by_ (md:=[]) Tryz.func58 rfl (by kernel_rfl) (n:=58) Tryz.ntmps58 (by simp) (by decide) rfl ?_
  simp
  refine LoopT.round (fun E S=>∃ (i:Nat),(i≤l.length)∧E 0=some (.d (defsD l))∧E 3=some (.d (dI i))∧(allUp (defFits l) l i)) (upTo 3 l.length) ⟨0,by simp;exact allUp_zero _ _⟩ ?_
  rintro E S hk ⟨i,hi,h0,h3,hp⟩
  have hn:S.n=58:=by first | (simpa using hk.n)|(have hh:=hk.n;simp at hh;exact hh)
  have hg:S.gl=gl:=by first | (simpa using hk.gl)|(have hh:=hk.gl;simp at hh;exact hh)
  have hmd:S.md=[]:=by first | (simpa using hk.md)|(have hh:=hk.md;simp at hh;exact hh)
  simp[h0,h3,hn,hg]
  have w:=wrap64 (n:=(i:Int)+1) (by omega) (by omega)
  refine BrT.dec (fun c=>?_) (fun c=>?_)
  · have hi2:i<l.length:=by omega
    have hlen:=defs_len l
    have hfit:i*4+4≤l.length*4:=by omega
    have hat:=defs_at l hi2
    have bad:defFits l l[i]=false→z=false:=fun h=>by rw[← hz,all_bad hi2 h]
    have good:=all_take (p:=defFits l) hi2 hp
    obtain⟨hdb,hdo⟩:=hd _ (List.getElem_mem hi2)
    have hfo:=fld_of hdb
    generalize l[i]=d at hat bad good hdb hdo hfo
    have hdf:defFits l d=d.flds.all (fldFits l):=rfl
    obtain⟨dn,kind,fs,words⟩:=d
    obtain⟨hfl,hfk⟩:=hdo.2.1
    simp only at hdf hfo hfl hfk
    simp only[Def.cells] at hat
    have hat_2:=row_get hat 2 (by decide) rfl
    have hat_2'':=(List.getElem?_eq_some_iff.1 hat_2).2
    have hat_2':i*4+2<_:=Nat.lt_of_lt_of_le (by omega) hfit
    simp[hn,c]
    have o3:=h3
    refine LoopT.round (fun E S=>∃ (k:Nat),(k≤fs.length)∧E 0=some (.d (defsD l))∧E 3=some (.d (dI i))∧E 4=some (.d (dI k))∧(allUp (fldFits l) fs k)) (upTo 4 fs.length) ⟨0,by simp[h0,h3];exact allUp_zero _ _⟩ ?_
    rintro E S hk ⟨k,hk2,h0,h3,h4,hp2⟩
    have hn:S.n=58:=by first | (simpa using hk.n)|(have hh:=hk.n;simp[hn] at hh;exact hh)
    have hg:S.gl=gl:=by first | (simpa using hk.gl)|(have hh:=hk.gl;simp[hg] at hh;exact hh)
    have hmd:S.md=[]:=by first | (simpa using hk.md)|(have hh:=hk.md;simp[hmd] at hh;exact hh)
    simp[c,hat_2',hat_2'',hlen,h0,h3,h4,hn,hg]
    have w2:=wrap64 (n:=(k:Int)+1) (by omega) (by omega)
    refine BrT.dec (fun c2=>?_) (fun c2=>?_)
    · have hk3:k<fs.length:=by omega
      have flen:=flds_len fs
      have ffit:k*5+5≤fs.length*5:=by omega
      have fat:=flds_at fs hk3
      have bad2:fldFits l fs[k]=false→z=false:=fun h=>bad (by rw[hdf,all_bad hk3 h])
      have good2:=all_take (p:=fldFits l) hk3 hp2
      have hfo:=hfo _ (List.getElem_mem hk3)
      have hfk:=hfk _ (List.getElem_mem hk3)
      generalize fs[k]=f at fat bad2 good2 hfo hfk
      have hff:fldFits l f=f.args.all (argFits l):=rfl
      obtain⟨fn,args,fty⟩:=f
      cases fty with
      | mk ft flt fb =>
      obtain⟨hal,hak⟩:=hfk.2.1
      simp only at hff hfo hal hak
      simp only[Fld.cells,Typ.cells] at fat
      have fat_1:=row_get fat 1 (by decide) rfl
      have fat_1'':=(List.getElem?_eq_some_iff.1 fat_1).2
      have fat_1':k*5+1<_:=Nat.lt_of_lt_of_le (by omega) ffit
      simp[c,hat_2',hat_2'',hlen,h0,h3,h4,hn,c2,fat_1',fat_1'',flen]
      have o4:=h4
      refine LoopT.round (fun E S=>∃ (q:Nat),(q≤args.length)∧E 0=some (.d (defsD l))∧E 3=some (.d (dI i))∧E 4=some (.d (dI k))∧E 5=some (.d (argsD args))∧E 6=some (.d (dI q))∧(allUp (argFits l) args q)) (upTo 6 args.length) ⟨0,by simp[h0,h3,h4];exact allUp_zero _ _⟩ ?_
      rintro E S hk ⟨q,hq2,h0,h3,h4,h5,h6,hp3⟩
      have hn:S.n=58:=by first | (simpa using hk.n)|(have hh:=hk.n;simp[hn] at hh;exact hh)
      have hg:S.gl=gl:=by first | (simpa using hk.gl)|(have hh:=hk.gl;simp[hg] at hh;exact hh)
      have hmd:S.md=[]:=by first | (simpa using hk.md)|(have hh:=hk.md;simp[hmd] at hh;exact hh)
      simp[h5,h6,hn,hg]
      have w3:=wrap64 (n:=(q:Int)+1) (by omega) (by omega)
      refine BrT.dec (fun c3=>?_) (fun c3=>?_)
      · have hq3:q<args.length:=by omega
        have alen:=args_len args
        have afit:q*10+10≤args.length*10:=by omega
        have aat:=args_at args hq3
        have bad3:argFits l args[q]=false→z=false:=fun h=>bad2 (by rw[hff,all_bad hq3 h])
        have good3:=all_take (p:=argFits l) hq3 hp3
        have haB:=hfo.2 _ (List.getElem_mem hq3)
        have haO:=hak _ (List.getElem_mem hq3)
        generalize args[q]=a at aat bad3 good3 haB haO
        have hF:=fun hh=>p_l2Fits (gl:=gl) l hL hd a.els a.ty 3 (typ_of haB) haO.2.2 (else_tw haB hh)
        have hafe:argFits l a = !(a.has && !fitsB l a.ty a.els):=rfl
        obtain⟨an,aty,ah,ae⟩:=a
        cases aty with
        | mk at_ alt ab =>
        cases ae with
        | mk ek en et el ens =>
        simp only at hF hafe
        simp only[Arg.cells,Typ.cells,Val.cells,List.cons_append,List.nil_append] at aat
        have aat_1_3:=row_sub aat 1 3 (by decide)
        have aat_1_3':q*10+1+3≤_:=Nat.le_trans (by omega) afit
        have aat_4:=row_get aat 4 (by decide) rfl
        have aat_4'':=(List.getElem?_eq_some_iff.1 aat_4).2
        have aat_4':q*10+4<_:=Nat.lt_of_lt_of_le (by omega) afit
        have aat_5_5:=row_sub aat 5 5 (by decide)
        have aat_5_5':q*10+5+5≤_:=Nat.le_trans (by omega) afit
        simp[h5,h6,hn,c3,aat_4',aat_4'',alen]
        refine⟨DrawT.mk (by kernel_rfl),?_⟩
        refine BrT.mk (fun ca=>?_) (fun ca=>?_)
        · simp[h0,h5,h6,hn,c3,aat_1_3,aat_1_3',aat_5_5,aat_5_5',alen,ca]
          repeat refine⟨DrawT.mk (by kernel_rfl),?_⟩
          refine CallT.p0 (hF ca) (by first | rfl | (simp;done)|(simp[hg];done)) (by first | rfl | (simp;done)|(simp;rfl)|(simp[h0,h3,hn,hg,hmd,c,hat_2,hat_2',hat_2'',hi2,w,hlen,hfit,h0,h3,h4,hn,hg,hmd,c2,fat_1,fat_1',fat_1'',hk3,w2,flen,ffit,h0,h3,h4,h5,h6,hn,hg,hmd,c3,aat_1_3,aat_1_3',aat_4,aat_4',aat_4'',aat_5_5,aat_5_5',hq3,w3,alen,afit,ca];done)) ?_
          simp[hn]
          refine BrT.mk (fun cf=>?_) (fun cf=>?_)
          case refine_2=>(have hq:=bad3 (by rw[hafe,ca,cf];rfl);simp[hn,cf,hq])
          simp[h0,h3,h4,h5,h6,hn,w3,cf]
          exact⟨⟨q+1,hq3,by omega,good3 (by rw[hafe,ca,cf];rfl)⟩,upTo_lt h6 (by simp) hq3⟩
        · simp[h0,h3,h4,h5,h6,hn,w3,ca]
          exact⟨⟨q+1,hq3,by omega,good3 (by rw[hafe,ca];rfl)⟩,upTo_lt h6 (by simp) hq3⟩
      · have hq4:q=args.length:=by omega
        subst hq4
        have g:=good2 (by rw[hff];exact allUp_all hp3)
        simp[w2,h0,h3,h4,hn,c3]
        exact⟨⟨k+1,hk3,by omega,g⟩,upTo_lt o4 (by simp) hk3⟩
    · have hk4:k=fs.length:=by omega
      subst hk4
      have g:=good (by rw[hdf];exact allUp_all hp2)
      simp[w,h0,h3,hn,c2]
      exact⟨⟨i+1,hi2,by omega,g⟩,upTo_lt o3 (by simp) hi2⟩
  · have hi3:i=l.length:=by omega
    subst hi3
    rw[allUp_all hp] at hz
    simp[hn,c, ← hz]
def cz (b:Bool):Int:=if b=true then 4 else 0
def wordsOf (d:Def):List ByteArray:=if d.kind=2 then [] else d.words
def missW (l:List Def) (w:ByteArray):Bool:=decide (kindZ l w<0)
def badW (l:List Def) (w:ByteArray):Bool:=!decide (kindZ l w=1)
def missA (l:List Def) (a:Arg):Bool:=decide (kindZ l (baseT a.ty)<0)
def badA (l:List Def) (a:Arg):Bool:=!goesB l (baseT a.ty) true
def missF (l:List Def) (f:Fld):Bool:=decide (kindZ l (baseT f.ty)<0) || f.args.any (missA l)
def badF (l:List Def) (inn:Bool) (f:Fld):Bool:=!goesB l (baseT f.ty) inn || f.args.any (badA l)
def missD (l:List Def) (d:Def):Bool:=(wordsOf d).any (missW l) || d.flds.any (missF l)
def badD (l:List Def) (d:Def):Bool:=(wordsOf d).any (badW l) || d.flds.any (badF l (decide (d.kind=3)))
def namesZ (l:List Def):Int:=if l.any (missD l)=true then 3 else cz (l.any (badD l))
def anyTo {α:Type} (p:α→Bool) (l:List α) (i:Nat):Bool:=(l.take i).any p
@[simp] theorem anyTo_zero {α:Type} (p:α→Bool) (l:List α):anyTo p l 0=false:=rfl
theorem anyTo_next {α:Type}{p:α→Bool}{l:List α}{i:Nat} (hi:i<l.length):anyTo p l (i+1)=(anyTo p l i || p l[i]):=any_take hi
theorem anyTo_all {α:Type} (p:α→Bool) (l:List α):anyTo p l l.length=l.any p:=by unfold anyTo;rw[List.take_length]
theorem words_len {d:Def} (h:defB d=true):d.words.length≤8:=by
  unfold defB at h
  rw[Bool.and_eq_true] at h
  have h:=h.2
  split at h
  · rw[Bool.and_eq_true] at h
    have:=of_decide_eq_true h.1
    omega
  · split at h
    · simp only[Bool.and_eq_true,decide_eq_true_eq] at h
      omega
    · cases h
set_option maxHeartbeats 8000000 in
theorem p_l2Names (l:List Def) (hL:l.length≤1000000) (hd:∀ d∈l,defB d=true∧DefOk d):PCall Tryz.prog gl 55 [defsD l] (dI (namesZ l)):=by
  obtain⟨z,hz⟩:∃ z,namesZ l=z:=⟨_,rfl⟩
  rw[hz]
  have miss:l.any (missD l)=true→z=3:=fun h=>by rw[← hz,namesZ,if_pos h]
  have fine:l.any (missD l)=false→z=cz (l.any (badD l)):=fun h=>by rw[← hz,namesZ,if_neg (by rw[h];decide)]
  have hl0:l.length≤4611686018427387904:=by omega
  refine PCall.by_ (md:=[]) Tryz.func55 rfl (by kernel_rfl) (n:=109) Tryz.ntmps55 (by simp) (by decide) rfl ?_
  simp
  refine LoopT.round (fun E S=>∃ (i:Nat),(i≤l.length)∧E 0=some (.d (defsD l))∧E 3=some (.d (dI (cz (anyTo (badD l) l i))))∧E 4=some (.d (dI i))∧(noUp (missD l) l i)) (upTo 4 l.length) ⟨0,by simp;exact⟨rfl,noUp_zero _ _⟩⟩ ?_
  rintro E S hk ⟨i,hi,h0,h3,h4,hp⟩
  have hn:S.n=109:=by first | (simpa using hk.n)|(have hh:=hk.n;simp at hh;exact hh)
  have hg:S.gl=gl:=by first | (simpa using hk.gl)|(have hh:=hk.gl;simp at hh;exact hh)
  have hmd:S.md=[]:=by first | (simpa using hk.md)|(have hh:=hk.md;simp at hh;exact hh)
  simp[h0,h4,hn,hg]
  have w:=wrap64 (n:=(i:Int)+1) (by omega) (by omega)
  refine BrT.dec (fun c=>?_) (fun c=>?_)
  · have hi2:i<l.length:=by omega
    have hlen:=defs_len l
    have hfit:i*4+4≤l.length*4:=by omega
    have hat:=defs_at l hi2
    have bad:missD l l[i]=true→z=3:=fun h=>miss (any_at hi2 h)
    have good:=noUp_next hi2 hp
    have code:=anyTo_next (p:=badD l) hi2
    obtain⟨hdb,hdo⟩:=hd _ (List.getElem_mem hi2)
    have hfo:=fld_of hdb
    generalize l[i]=d at hat bad good code hdb hdo hfo
    generalize anyTo (badD l) l i=c0 at code h3
    have hmis:missD l d=((wordsOf d).any (missW l) || d.flds.any (missF l)):=rfl
    have hbdd:badD l d=((wordsOf d).any (badW l) || d.flds.any (badF l (decide (d.kind=3)))):=rfl
    have hww:wordsOf d=if d.kind=2 then [] else d.words:=rfl
    obtain⟨dn,kind,fs,words⟩:=d
    obtain⟨hfl,hfk⟩:=hdo.2.1
    have hwl:=words_len hdb
    simp only at hmis hbdd hww hfo hfl hfk hwl
    generalize wordsOf _=ws at hmis hbdd hww
    simp only[Def.cells] at hat
    have hat_1:=row_get hat 1 (by decide) rfl
    have hat_1'':=(List.getElem?_eq_some_iff.1 hat_1).2
    have hat_1':i*4+1<_:=Nat.lt_of_lt_of_le (by omega) hfit
    have hat_2:=row_get hat 2 (by decide) rfl
    have hat_2'':=(List.getElem?_eq_some_iff.1 hat_2).2
    have hat_2':i*4+2<_:=Nat.lt_of_lt_of_le (by omega) hfit
    have hat_3:=row_get hat 3 (by decide) rfl
    have hat_3'':=(List.getElem?_eq_some_iff.1 hat_3).2
    have hat_3':i*4+3<_:=Nat.lt_of_lt_of_le (by omega) hfit
    by_cases hw0:words=[]
    case' pos =>
      subst hw0
      simp[h0,h4,hn,hmd,c,hat_1',hat_1'',hat_3',hat_3'',hlen]
    case' neg =>
      have hw1:0<words.length:=List.length_pos_iff.2 hw0
      simp[h0,h4,hn,hmd,c,hat_1',hat_1'',hat_3',hat_3'',hlen,hw0]
      refine⟨by unfold appBound;omega,?_⟩
    all_goals
      refine BrT.dec (fun k2=>?_) (fun k2=>?_)
    all_goals
      simp[hn,hmd]
      refine LoopT.asD 5 (namesD ws) (by rw[hww];first | (rw[if_pos k2];rfl)|(rw[if_neg k2];rfl)) ?_
      have o4:=h4
      have wl:ws.length≤4611686018427387903:=by
        rw[hww];split
        · simp
        · first | omega | simp
      refine LoopT.round (fun E S=>∃ (k:Nat),(k≤ws.length)∧E 0=some (.d (defsD l))∧E 3=some (.d (dI (cz (c0 || anyTo (badW l) ws k))))∧E 4=some (.d (dI i))∧E 5=some (.d (namesD ws))∧E 6=some (.d (dI k))∧(noUp (missW l) ws k)) (upTo 6 ws.length) ⟨0,by simp[h0,h3,h4];exact noUp_zero _ _⟩ ?_
      rintro E S hk ⟨k,hkl,h0,h3,h4,h5,h6,hp2⟩
      have hn:S.n=109:=by first | (simpa using hk.n)|(have hh:=hk.n;simp[hn] at hh;exact hh)
      have hg:S.gl=gl:=by first | (simpa using hk.gl)|(have hh:=hk.gl;simp[hg] at hh;exact hh)
      have hmd:S.md=[]:=by first | (simpa using hk.md)|(have hh:=hk.md;simp[hmd] at hh;exact hh)
      simp[h5,h6,hn,hg]
      have w2:=wrap64 (n:=(k:Int)+1) (by omega) (by omega)
      refine BrT.dec (fun c2=>?_) (fun c2=>?_)
      · have hk3:k<ws.length:=by omega
        have mis:=any_at (p:=missW l) hk3
        have gd:=noUp_next hk3 hp2
        have cd:=anyTo_next (p:=badW l) hk3
        have hK:=p_l2Kind (gl:=gl) l ws[k] hl0
        have hmw:missW l ws[k]=decide (kindZ l ws[k]<0):=rfl
        have hbw:badW l ws[k] = !decide (kindZ l ws[k]=1):=rfl
        generalize kindZ l ws[k]=zk at hK hmw hbw
        simp[h0,h5,h6,hn,c2]
        repeat refine⟨DrawT.mk (by kernel_rfl),?_⟩
        refine CallT.p0 (hK) (by first | rfl | (simp;done)|(simp[hg];done)) (by first | rfl | (simp;done)|(simp;rfl)|(simp[h0,h3,h4,hn,hg,hmd,c,hat_1,hat_1',hat_1'',hat_2,hat_2',hat_2'',hat_3,hat_3',hat_3'',hi2,w,hlen,hfit,h0,h3,h4,h5,h6,hn,hg,hmd,c2,hk3,w2];done)) ?_
        simp[hn]
        refine BrT.dec (fun m1=>?_) (fun m1=>?_)
        case refine_1=>(have hq:=bad (by rw[hmis,mis (by rw[hmw];exact decide_eq_true m1)];rfl);simp[hn,m1,hq])
        have gd:=gd (by rw[hmw];exact decide_eq_false m1)
        simp[h0,h5,h6,hn,c2,m1]
        repeat refine⟨DrawT.mk (by kernel_rfl),?_⟩
        refine CallT.p0 (hK) (by first | rfl | (simp;done)|(simp[hg];done)) (by first | rfl | (simp;done)|(simp;rfl)|(simp[h0,h3,h4,hn,hg,hmd,c,hat_1,hat_1',hat_1'',hat_2,hat_2',hat_2'',hat_3,hat_3',hat_3'',hi2,w,hlen,hfit,h0,h3,h4,h5,h6,hn,hg,hmd,c2,hk3,w2,m1];done)) ?_
        simp[hn]
        refine BrT.dec (fun m2=>?_) (fun m2=>?_)
        · rw[hbw,decide_eq_true m2,Bool.not_true,Bool.or_false] at cd
          rw[← cd] at h3
          simp[h0,h3,h4,h5,h6,hn,w2,m2]
          exact⟨⟨k+1,hk3,rfl,by omega,gd⟩,upTo_lt h6 (by simp) hk3⟩
        · rw[hbw,decide_eq_false m2,Bool.not_false,Bool.or_true] at cd
          simp[h0,h4,h5,h6,hn,w2,m2]
          exact⟨⟨k+1,hk3,by rw[cd];simp[cz],by omega,gd⟩,upTo_lt h6 (by simp) hk3⟩
      · have hk4:k=ws.length:=by omega
        subst hk4
        have hm1:=noUp_all hp2
        rw[anyTo_all] at h3
        rw[hm1,Bool.false_or] at hmis
        generalize ws.any (badW l)=wb at h3 hbdd
        obtain⟨c1,hc1⟩:∃ c1,(c0 || wb)=c1:=⟨_,rfl⟩
        rw[hc1] at h3
        simp[hn,c2]
        refine LoopT.round (fun E S=>∃ (k:Nat),(k≤fs.length)∧E 0=some (.d (defsD l))∧E 3=some (.d (dI (cz (c1 || anyTo (badF l (decide (kind=3))) fs k))))∧E 4=some (.d (dI i))∧E 7=some (.d (dI k))∧(noUp (missF l) fs k)) (upTo 7 fs.length) ⟨0,by simp[h0,h3,h4];exact noUp_zero _ _⟩ ?_
        rintro E S hk ⟨k,hkl,h0,h3,h4,h7,hp3⟩
        have hn:S.n=109:=by first | (simpa using hk.n)|(have hh:=hk.n;simp[hn] at hh;exact hh)
        have hg:S.gl=gl:=by first | (simpa using hk.gl)|(have hh:=hk.gl;simp[hg] at hh;exact hh)
        have hmd:S.md=[]:=by first | (simpa using hk.md)|(have hh:=hk.md;simp[hmd] at hh;exact hh)
        simp[c,hat_2',hat_2'',hlen,h0,h4,h7,hn,hg]
        have w3:=wrap64 (n:=(k:Int)+1) (by omega) (by omega)
        refine BrT.dec (fun c3=>?_) (fun c3=>?_)
        · have hk3:k<fs.length:=by omega
          have flen:=flds_len fs
          have ffit:k*5+5≤fs.length*5:=by omega
          have fat:=flds_at fs hk3
          have mis:=any_at (p:=missF l) hk3
          have gd:=noUp_next hk3 hp3
          have cd:=anyTo_next (p:=badF l (decide (kind=3))) hk3
          have hfo:=hfo _ (List.getElem_mem hk3)
          have hfk:=hfk _ (List.getElem_mem hk3)
          generalize fs[k]=f at fat mis gd cd hfo hfk
          have hmf:missF l f=(decide (kindZ l (baseT f.ty)<0) || f.args.any (missA l)):=rfl
          have hbf:badF l (decide (kind=3)) f=(!goesB l (baseT f.ty) (decide (kind=3)) || f.args.any (badA l)):=rfl
          have hB:=p_l2Base (gl:=gl) f.ty 3 hfo.1
          have hK:=p_l2Kind (gl:=gl) l (baseT f.ty) hl0
          have hG:=p_l2Goes (gl:=gl) l (baseT f.ty) (decide (kind=3)) hl0
          generalize baseT f.ty=bt at hmf hbf hB hK hG
          generalize kindZ l bt=zk at hmf hK
          generalize goesB l bt (decide (kind=3))=zg at hbf hG
          generalize anyTo (badF l (decide (kind=3))) fs k=cb2 at h3 cd
          obtain⟨fn,args,fty⟩:=f
          cases fty with
          | mk ft flt fb =>
          obtain⟨hal,hak⟩:=hfk.2.1
          simp only at hmf hbf hfo hal hak
          simp only[Fld.cells,Typ.cells] at fat
          simp[c,hat_2',hat_2'',hlen,h0,h4,h7,hn,c3,flen,ffit,fat]
          repeat refine⟨DrawT.mk (by kernel_rfl),?_⟩
          refine CallT.p0 (hB) (by first | rfl | (simp;done)|(simp[hg];done)) (by first | rfl | (simp;done)|(simp;rfl)|(simp[h0,h3,h4,hn,hg,hmd,c,hat_1,hat_1',hat_1'',hat_2,hat_2',hat_2'',hat_3,hat_3',hat_3'',hi2,w,hlen,hfit,h0,h3,h4,h5,h6,hn,hg,hmd,c2,h0,h3,h4,h7,hn,hg,hmd,c3,hk3,w3,flen,ffit,fat];done)) ?_
          simp[h0,hn]
          repeat refine⟨DrawT.mk (by kernel_rfl),?_⟩
          refine CallT.p0 (hK) (by first | rfl | (simp;done)|(simp[hg];done)) (by first | rfl | (simp;done)|(simp;rfl)|(simp[h0,h3,h4,hn,hg,hmd,c,hat_1,hat_1',hat_1'',hat_2,hat_2',hat_2'',hat_3,hat_3',hat_3'',hi2,w,hlen,hfit,h0,h3,h4,h5,h6,hn,hg,hmd,c2,h0,h3,h4,h7,hn,hg,hmd,c3,hk3,w3,flen,ffit,fat];done)) ?_
          simp[hn]
          refine BrT.dec (fun m1=>?_) (fun m1=>?_)
          case refine_1=>(have hq:=bad (by rw[hmis,mis (by rw[hmf,decide_eq_true m1];rfl)]);simp[hn,m1,hq])
          rw[decide_eq_false m1,Bool.false_or] at hmf
          simp[c,hat_1',hat_1'',hlen,h0,h4,hn,m1]
          repeat refine⟨DrawT.mk (by kernel_rfl),?_⟩
          refine CallT.p0 (hG) (by first | rfl | (simp;done)|(simp[hg];done)) (by first | rfl | (simp;done)|(simp;rfl)|(simp[h0,h3,h4,hn,hg,hmd,c,hat_1,hat_1',hat_1'',hat_2,hat_2',hat_2'',hat_3,hat_3',hat_3'',hi2,w,hlen,hfit,h0,h3,h4,h5,h6,hn,hg,hmd,c2,h0,h3,h4,h7,hn,hg,hmd,c3,hk3,w3,flen,ffit,fat,m1];done)) ?_
          simp[hn]
          have o7:=h7
          refine BrT.mk (fun mg=>?_) (fun mg=>?_)
          all_goals
            simp[hn,mg]
            refine LoopT.round (fun E S=>∃ (q:Nat) (b:Nat),(q≤args.length)∧E 0=some (.d (defsD l))∧E 3=some (.d (dI (cz ((c1 || (cb2 || !zg)) || anyTo (badA l) args q))))∧E 4=some (.d (dI i))∧E 7=some (.d (dI k))∧E 8=some (.op b 0)∧E 10=some (.d (dI q))∧S.B b=some ([.d (dS fn), .d (argsD args), .d (dS ft), .d (typsD flt), .d (dB fb)])∧(noUp (missA l) args q)) (upTo 10 args.length) ⟨0,S.nx+8+8,by simp[h0,h3,h4,h7,mg,cz];exact noUp_zero _ _⟩ ?_
            rintro E S hk ⟨q,b,hql,h0,h3,h4,h7,h8,h10,hBb,hp4⟩
            have hn:S.n=109:=by first | (simpa using hk.n)|(have hh:=hk.n;simp[hn] at hh;exact hh)
            have hg:S.gl=gl:=by first | (simpa using hk.gl)|(have hh:=hk.gl;simp[hg] at hh;exact hh)
            have hmd:S.md=[]:=by first | (simpa using hk.md)|(have hh:=hk.md;simp[hmd] at hh;exact hh)
            simp[mg,h8,h10,hBb,hn,hg]
            have w4:=wrap64 (n:=(q:Int)+1) (by omega) (by omega)
            refine BrT.dec (fun c4=>?_) (fun c4=>?_)
            · have hq3:q<args.length:=by omega
              have alen:=args_len args
              have afit:q*10+10≤args.length*10:=by omega
              have aat:=args_at args hq3
              have mis2:=any_at (p:=missA l) hq3
              have gd2:=noUp_next hq3 hp4
              have cd2:=anyTo_next (p:=badA l) hq3
              have haB:=hfo.2 _ (List.getElem_mem hq3)
              generalize args[q]=a at aat mis2 gd2 cd2 haB
              have hma:missA l a=decide (kindZ l (baseT a.ty)<0):=rfl
              have hba:badA l a = !goesB l (baseT a.ty) true:=rfl
              have hB2:=p_l2Base (gl:=gl) a.ty 3 (typ_of haB)
              have hK2:=p_l2Kind (gl:=gl) l (baseT a.ty) hl0
              have hG2:=p_l2Goes (gl:=gl) l (baseT a.ty) true hl0
              generalize baseT a.ty=bt2 at hma hba hB2 hK2 hG2
              generalize kindZ l bt2=zk2 at hma hK2
              generalize goesB l bt2 true=zg2 at hba hG2
              obtain⟨an,aty,ah,ae⟩:=a
              cases aty with
              | mk at_ alt ab =>
              cases ae with
              | mk ek en et el ens =>
              simp only[Arg.cells,Typ.cells,Val.cells,List.cons_append,List.nil_append] at aat
              have aat_1_3:=row_sub aat 1 3 (by decide)
              have aat_1_3':q*10+1+3≤_:=Nat.le_trans (by omega) afit
              simp[h8,h10,hBb,hn,c4,aat_1_3,aat_1_3',alen]
              repeat refine⟨DrawT.mk (by kernel_rfl),?_⟩
              refine CallT.p0 (hB2) (by first | rfl | (simp;done)|(simp[hg];done)) (by first | rfl | (simp;done)|(simp;rfl)|(simp[h0,h3,h4,hn,hg,hmd,c,hat_1,hat_1',hat_1'',hat_2,hat_2',hat_2'',hat_3,hat_3',hat_3'',hi2,w,hlen,hfit,h0,h3,h4,h5,h6,hn,hg,hmd,c2,h0,h3,h4,h7,hn,hg,hmd,c3,hk3,w3,flen,ffit,fat,m1,mg,h0,h3,h4,h7,h8,h10,hBb,hn,hg,hmd,c4,aat_1_3,aat_1_3',hq3,w4,alen,afit];done)) ?_
              simp[h0,hn]
              repeat refine⟨DrawT.mk (by kernel_rfl),?_⟩
              refine CallT.p0 (hK2) (by first | rfl | (simp;done)|(simp[hg];done)) (by first | rfl | (simp;done)|(simp;rfl)|(simp[h0,h3,h4,hn,hg,hmd,c,hat_1,hat_1',hat_1'',hat_2,hat_2',hat_2'',hat_3,hat_3',hat_3'',hi2,w,hlen,hfit,h0,h3,h4,h5,h6,hn,hg,hmd,c2,h0,h3,h4,h7,hn,hg,hmd,c3,hk3,w3,flen,ffit,fat,m1,mg,h0,h3,h4,h7,h8,h10,hBb,hn,hg,hmd,c4,aat_1_3,aat_1_3',hq3,w4,alen,afit];done)) ?_
              simp[hn]
              refine BrT.dec (fun m3=>?_) (fun m3=>?_)
              case refine_1=>(have hq:=bad (by rw[hmis,mis (by rw[hmf,mis2 (by rw[hma];exact decide_eq_true m3)])]);simp[hn,m3,hq])
              have gd2:=gd2 (by rw[hma];exact decide_eq_false m3)
              simp[h0,hn,m3]
              repeat refine⟨DrawT.mk (by kernel_rfl),?_⟩
              refine CallT.p0 (hG2) (by first | rfl | (simp;done)|(simp[hg];done)) (by first | rfl | (simp;done)|(simp;rfl)|(simp[h0,h3,h4,hn,hg,hmd,c,hat_1,hat_1',hat_1'',hat_2,hat_2',hat_2'',hat_3,hat_3',hat_3'',hi2,w,hlen,hfit,h0,h3,h4,h5,h6,hn,hg,hmd,c2,h0,h3,h4,h7,hn,hg,hmd,c3,hk3,w3,flen,ffit,fat,m1,mg,h0,h3,h4,h7,h8,h10,hBb,hn,hg,hmd,c4,aat_1_3,aat_1_3',hq3,w4,alen,afit,m3];done)) ?_
              simp[hn]
              refine BrT.mk (fun m4=>?_) (fun m4=>?_)
              · rw[hba,m4,Bool.not_true,Bool.or_false] at cd2
                rw[← cd2] at h3
                simp[mg,h0,h3,h4,h7,h8,h10,hBb,hn,w4,m4]
                first | exact⟨⟨q+1,hq3,rfl,by omega,gd2⟩,upTo_lt h10 (by simp) hq3⟩ | exact⟨⟨q+1,hq3,by omega,gd2⟩,upTo_lt h10 (by simp) hq3⟩
              · rw[hba,m4,Bool.not_false,Bool.or_true] at cd2
                simp[h0,h4,h7,h8,h10,hBb,hn,w4,m4]
                exact⟨⟨q+1,hq3,by first | rfl | (rw[cd2];simp[cz]),by omega,gd2⟩,upTo_lt h10 (by simp) hq3⟩
            · have hq4:q=args.length:=by omega
              subst hq4
              rw[noUp_all hp4] at hmf
              rw[anyTo_all] at h3
              have gd:=gd hmf
              have e:(c1 || (cb2 || !zg) || args.any (badA l))=(c1 || anyTo (badF l (decide (kind=3))) fs (k+1)):=by
                rw[cd,hbf]
                cases c1<;>cases cb2<;>cases zg<;>rfl
              rw[e] at h3
              simp[w3,h0,h3,h4,h7,hn,c4]
              exact⟨⟨k+1,hk3,rfl,by omega,gd⟩,upTo_lt o7 (by simp) hk3⟩
        · have hk4:k=fs.length:=by omega
          subst hk4
          have hm2:=noUp_all hp3
          rw[anyTo_all] at h3
          rw[hm2] at hmis
          have gd:=good hmis
          have e:(c1 || fs.any (badF l (decide (kind=3))))=anyTo (badD l) l (i+1):=by
            rw[code,hbdd, ← hc1,Bool.or_assoc]
          rw[e] at h3
          simp[w,h0,h3,h4,hn,c3]
          exact⟨⟨i+1,hi2,rfl,by omega,gd⟩,upTo_lt o4 (by simp) hi2⟩
  · have hi3:i=l.length:=by omega
    subst hi3
    have hq:=fine (noUp_all hp)
    rw[anyTo_all] at h3
    simp[h3,hn,c,hq]
def rootBad (l:List Def):Bool:=!decide (kindZ l queryS=1) || (decide (0≤atZ l mutS) && !decide (kindZ l mutS=1))
def roundP (l:List Def):Bool:=l.any fun d=>roundZ l (l.length+1) d.name
def checkQ (l:List Def):Int :=
  if 10<l.length then 1 else if ¬ onceB (defNames l)=true then 2 else if ¬ namesZ l=0 then namesZ l else if rootBad l=true then 5 else if ¬ (l.all (defFits l))=true then 6 else if roundP l=true then 7 else 0
def checkP (l:List Def):Int:=if ¬ (l.all defB)=true then 1 else checkQ l
set_option maxHeartbeats 8000000 in
theorem p_spSchemaCheck (l:List Def) (hl:l.length≤1048576) (hsm:∀ d∈l,DefSm d):PCall Tryz.prog gl 15 [defsD l] (dI (checkP l)):=by
  obtain⟨z,hz⟩:∃ z,checkP l=z:=⟨_,rfl⟩
  rw[hz]
  unfold checkP at hz
  refine PCall.by_ (md:=[]) Tryz.func15 rfl (by kernel_rfl) (n:=72) Tryz.ntmps15 (by simp) (by decide) rfl ?_
  simp
  refine LoopT.round (fun E S=>∃ (i:Nat) (X:SV),(i≤l.length)∧E 0=some (.d (defsD l))∧E 3=some (X)∧E 4=some (.d (dI i))∧(AccD 1 S X (accN Def.name l i) i)∧(allUp defB l i)) (upTo 4 l.length) ⟨0, .fl [] 0,by simp;exact⟨AccD.nil,allUp_zero _ _⟩⟩ ?_
  rintro E S hk ⟨i,X,hi,h0,h3,h4,hA,hp⟩
  have hn:S.n=72:=by first | (simpa using hk.n)|(have hh:=hk.n;simp at hh;exact hh)
  have hg:S.gl=gl:=by first | (simpa using hk.gl)|(have hh:=hk.gl;simp at hh;exact hh)
  have hmd:S.md=[]:=by first | (simpa using hk.md)|(have hh:=hk.md;simp at hh;exact hh)
  simp[h0,h4,hn,hg]
  have w:=wrap64 (n:=(i:Int)+1) (by omega) (by omega)
  refine BrT.dec (fun c=>?_) (fun c=>?_)
  · have hi2:i<l.length:=by omega
    have hlen:=defs_len l
    have hfit:i*4+4≤l.length*4:=by omega
    have hat:=defs_at l hi2
    have hS:=hsm _ (List.getElem_mem hi2)
    have bad:defB l[i]=false→z=1:=fun h=>by rw[← hz,if_pos (by rw[all_bad hi2 h];decide)]
    have good:=all_take (p:=defB) hi2 hp
    have hcl:=accN_len Def.name l hi
    obtain⟨x,hx1⟩:∃ x,l[i].name=x:=⟨_,rfl⟩
    have hsn:=fun S' q h1 h2=>AccD.snoc (f:=Def.name) (l:=l) (S:=S) (S':=S') (i:=i) (q:=q) hi2 h1 h2 hx1.symm
    generalize hav:l[i]=d at hS bad good hat hx1
    have hF:=p_l2Form (gl:=gl) d hS
    obtain⟨dn,kind,fs,words⟩:=d
    simp only at hx1
    subst hx1
    simp only[Def.cells] at hat
    have hat_0:=row_get0 hat (by decide) rfl
    have hat_0'':=(List.getElem?_eq_some_iff.1 hat_0).2
    have hat_0':i*4<_:=Nat.lt_of_lt_of_le (by omega) hfit
    have hat_0_4:=row_sub0 hat 4 (by decide)
    have hat_0_4':i*4+4≤_:=Nat.le_trans (by omega) hfit
    rcases hA with ⟨hi0,hcs,rfl⟩ | ⟨hpos,q,hq0,rfl,hT0⟩
    case' inl=>simp[h0,h3,h4,hn,hmd,c,hat_0',hat_0'',hat_0_4,hat_0_4',hlen]
    case' inr=>simp[h0,h3,h4,hn,hmd,c,hat_0',hat_0'',hat_0_4,hat_0_4',hlen,hT0,hcl]
    all_goals
      refine⟨by unfold appBound;omega,?_⟩
      repeat refine⟨DrawT.mk (by kernel_rfl),?_⟩
      refine CallT.p0 (hF) (by first | rfl | (simp;done)|(simp[hg];done)) (by first | rfl | (simp;done)|(simp;rfl)|(simp[h0,h3,h4,hn,hg,hmd,c,hat_0,hat_0',hat_0'',hat_0_4,hat_0_4',hi2,w,hlen,hfit,Def.cells];done)) ?_
      simp[hn]
      refine BrT.mk (fun c1=>?_) (fun c1=>?_)
      case refine_2=>(have hq:=bad c1;simp[hn,c1,hq])
      have hp2:allUp defB l (i+1):=good c1
      simp[h0,h4,hn,w,c1]
      first
      | exact⟨⟨i+1,hi2,by omega,by subst hi0;exact hsn _ _ (by simp) (by simp),hp2⟩,upTo_lt h4 (by simp) hi2⟩
      | exact⟨⟨i+1,hi2,by omega,hsn _ _ (by simp;omega) (by simp),hp2⟩,upTo_lt h4 (by simp) hi2⟩
  · have hi3:i=l.length:=by omega
    subst hi3
    have hall:=allUp_all hp
    rw[if_neg (by rw[hall];decide)] at hz
    have hd:∀ d∈l,defB d=true∧DefOk d:=fun d hm=>⟨List.all_eq_true.1 hall d hm,def_ok (hsm d hm)⟩
    have hnm:NamesOk (defNames l):=⟨by simp;omega,fun s hs=>by
      obtain⟨a,ha,rfl⟩:=List.mem_map.1 hs
      exact (hd a ha).2.1⟩
    have hX:=hA.names
    unfold checkQ at hz
    simp[h0,hn,c]
    refine BrT.dec (fun t0=>?_) (fun t0=>?_)
    case refine_1=>(rw[if_pos (by omega)] at hz;simp[hn,t0, ← hz])
    have hl10:l.length≤10:=by omega
    rw[if_neg (by omega)] at hz
    simp[h3,hn,t0]
    repeat refine⟨DrawT.mk (by kernel_rfl),?_⟩
    refine CallT.p0 (p_l1Once (defNames l) hnm) (by first | rfl | (simp;done)|(simp[h0,h3,h4,hn,hg,hmd,c,hX,t0];done)) (by first | rfl | (simp;done)|(simp;rfl)|(simp[hX];done)) ?_
    simp[hn]
    refine BrT.mk (fun t1=>?_) (fun t1=>?_)
    case refine_2=>(rw[if_pos (by rw[t1];decide)] at hz;simp[hn,t1, ← hz])
    rw[if_neg (fun e=>e t1)] at hz
    simp[h0,hn,t1]
    have hN:=p_l2Names (gl:=gl) l (by omega) hd
    generalize namesZ l=nz at hN hz
    repeat refine⟨DrawT.mk (by kernel_rfl),?_⟩
    refine CallT.p0 (hN) (by first | rfl | (simp;done)|(simp[hg];done)) (by first | rfl | (simp;done)|(simp;rfl)|(simp[h0,h3,h4,hn,hg,hmd,c,hX,t0,t1];done)) ?_
    simp[hn]
    refine BrT.dec (fun t2=>?_) (fun t2=>?_)
    case' refine_2 =>
      rw[if_pos t2] at hz
      simp[h0,hn,t2]
      repeat refine⟨DrawT.mk (by kernel_rfl),?_⟩
      refine CallT.p0 (hN) (by first | rfl | (simp;done)|(simp[hg];done)) (by first | rfl | (simp;done)|(simp;rfl)|(simp[h0,h3,h4,hn,hg,hmd,c,hX,t0,t1,t2];done)) ?_
      simp[hn, ← hz]
    rw[if_neg (fun e=>e t2)] at hz
    simp[h0,hn,t2]
    have hQ:=p_l2Kind (gl:=gl) l queryS (by omega)
    have hM:=p_l2Kind (gl:=gl) l mutS (by omega)
    have hMa:=p_l2At (gl:=gl) l mutS (by omega)
    unfold rootBad at hz
    generalize kindZ l queryS=kq at hQ hz
    generalize kindZ l mutS=km at hM hz
    generalize atZ l mutS=am at hMa hz
    repeat refine⟨DrawT.mk (by kernel_rfl),?_⟩
    refine CallT.p0 (hQ) (by first | rfl | (simp;done)|(simp[hg];done)) (by first | rfl | (simp;done)|(simp;rfl)|(simp[h0,h3,h4,hn,hg,hmd,c,hX,t0,t1,t2];done)) ?_
    simp[hn]
    refine BrT.dec (fun t3=>?_) (fun t3=>?_)
    case refine_2=>(rw[if_pos (by rw[decide_eq_false t3];rfl)] at hz;simp[hn,t3, ← hz])
    rw[decide_eq_true t3,Bool.not_true,Bool.false_or] at hz
    simp[h0,hn,t3]
    repeat refine⟨DrawT.mk (by kernel_rfl),?_⟩
    refine CallT.p0 (hMa) (by first | rfl | (simp;done)|(simp[hg];done)) (by first | rfl | (simp;done)|(simp;rfl)|(simp[h0,h3,h4,hn,hg,hmd,c,hX,t0,t1,t2,t3];done)) ?_
    simp[hn]
    refine BrT.dec (fun t4=>?_) (fun t4=>?_)
    case' refine_1 =>
      rw[decide_eq_true t4,Bool.true_and] at hz
      simp[h0,hn,t4]
      repeat refine⟨DrawT.mk (by kernel_rfl),?_⟩
      refine CallT.p0 (hM) (by first | rfl | (simp;done)|(simp[hg];done)) (by first | rfl | (simp;done)|(simp;rfl)|(simp[h0,h3,h4,hn,hg,hmd,c,hX,t0,t1,t2,t3,t4];done)) ?_
      simp[hn]
      refine BrT.dec (fun t5=>?_) (fun t5=>?_)
      case refine_2=>(rw[decide_eq_false t5,if_pos (by decide)] at hz;simp[hn,t5, ← hz])
      rw[decide_eq_true t5,if_neg (by decide)] at hz
      simp[h0,hn,t5]
    case' refine_2 =>
      rw[decide_eq_false t4,Bool.false_and,if_neg (by decide)] at hz
      simp[h0,hn,t4]
    all_goals
      repeat refine⟨DrawT.mk (by kernel_rfl),?_⟩
      refine CallT.p0 (p_l2Else l (by omega) hd) (by first | rfl | (simp;done)|(simp[h0,h3,h4,hn,hg,hmd,c,hX,t0,t1,t2,t3,t4];done)) (by first | rfl | (simp;done)|(simp;rfl)|(simp[h0,h3,h4,hn,hg,hmd,c,hX,t0,t1,t2,t3,t4];done)) ?_
      simp[hn]
      refine BrT.mk (fun t6=>?_) (fun t6=>?_)
      case refine_2=>(rw[if_pos (by rw[t6];decide)] at hz;simp[hn,t6, ← hz])
      rw[if_neg (fun e=>e t6)] at hz
      simp[hn,t6]
      refine LoopT.round (fun E S=>∃ (i:Nat),(i≤l.length)∧E 0=some (.d (defsD l))∧E 5=some (.d (dI i))∧(noUp (fun d=>roundZ l (l.length+1) d.name) l i)) (upTo 5 l.length) ⟨0,by simp[h0];exact noUp_zero _ _⟩ ?_
      rintro E S hk ⟨i,hi,h0,h5,hpr⟩
      have hn:S.n=72:=by first | (simpa using hk.n)|(have hh:=hk.n;simp[hn] at hh;exact hh)
      have hg:S.gl=gl:=by first | (simpa using hk.gl)|(have hh:=hk.gl;simp[hg] at hh;exact hh)
      have hmd:S.md=[]:=by first | (simpa using hk.md)|(have hh:=hk.md;simp[hmd] at hh;exact hh)
      simp[h0,h5,hn,hg]
      have w:=wrap64 (n:=(i:Int)+1) (by omega) (by omega)
      refine BrT.dec (fun c5=>?_) (fun c5=>?_)
      · have hi2:i<l.length:=by omega
        have hlen:=defs_len l
        have hfit:i*4+4≤l.length*4:=by omega
        have hat:=defs_at l hi2
        have yes:=any_at (p:=fun d=>roundZ l (l.length+1) d.name) hi2
        have gd:=noUp_next (p:=fun d=>roundZ l (l.length+1) d.name) hi2 hpr
        generalize l[i]=d at hat yes gd
        obtain⟨dn,kind,fs,words⟩:=d
        have hR:=p_l2Round (gl:=gl) l (by omega) (fun d hm=>(hd d hm).2) (l.length+1) dn (Nat.le_refl _)
        rw[Nat.sub_self] at hR
        simp only[Def.cells] at hat
        simp only at yes gd
        have hat_0:=row_get0 hat (by decide) rfl
        have hat_0'':=(List.getElem?_eq_some_iff.1 hat_0).2
        have hat_0':i*4<_:=Nat.lt_of_lt_of_le (by omega) hfit
        simp[h0,h5,hn,c5,hat_0',hat_0'',hlen]
        repeat refine⟨DrawT.mk (by kernel_rfl),?_⟩
        refine CallT.p0 (hR) (by first | rfl | (simp;done)|(simp[hg];done)) (by first | rfl | (simp;done)|(simp;rfl)|(simp[h0,h3,h4,hn,hg,hmd,c,hX,t0,t1,t2,t3,t4,t6,h0,h5,hn,hg,hmd,c5,hat_0,hat_0',hat_0'',hi2,w,hlen,hfit];done)) ?_
        simp
        refine BrT.mk (fun c6=>?_) (fun c6=>?_)
        · have hq:roundP l=true:=yes c6
          rw[if_pos hq] at hz
          simp[hn,c6, ← hz]
        · simp[h0,h5,hn,w,c6]
          exact⟨⟨i+1,hi2,by omega,gd c6⟩,upTo_lt h5 (by simp) hi2⟩
      · have hi3:i=l.length:=by omega
        subst hi3
        have hq:roundP l=false:=noUp_all hpr
        rw[if_neg (by rw[hq];decide)] at hz
        simp[c,hn, ← hz]
end Go.Proofs.YtlmpjblmmpddeaaGreat
namespace Go.Proofs.YtlmpjblmmpddeaaGreat
open Go.Sh
section
variable {l:List Def}
theorem form_kind (h:∀ d∈l,defB d=true):∀ d∈l,d.kind=1∨d.kind=2∨d.kind=3∨d.kind=4:=fun d hd=>by
  have:=h d hd
  unfold defB at this
  rw[Bool.and_eq_true] at this
  have:=this.2
  split at this
  · omega
  · split at this
    · omega
    · cases this
theorem form_name (h:∀ d∈l,defB d=true):∀ d∈l,nameB d.name=true∧groundB d.name=false:=fun d hd=>by
  have:=h d hd
  unfold defB at this
  rw[Bool.and_eq_true,Bool.and_eq_true] at this
  exact⟨this.1.1,by simpa using this.1.2⟩
theorem at_mem {s:ByteArray}{j:Nat} (h:atD l s=some j):∃ hj:j<l.length,l[j].name=s:=by
  obtain⟨h1,h2,_⟩:=List.findIdx?_eq_some_iff_getElem.1 h
  exact⟨h1,by simpa using h2⟩
theorem ground_at (h:∀ d∈l,defB d=true) {s:ByteArray} (hg:groundB s=true):atD l s=none:=by
  cases ha:atD l s with
  | none=>rfl
  | some j =>
    obtain⟨hj,he⟩:=at_mem ha
    have:=(form_name h _ (List.getElem_mem hj)).2
    rw[he,hg] at this;cases this
theorem kindL_at {s:ByteArray}{j:Nat} (h:atD l s=some j) (hj:j<l.length):kindL l s=l[j].kind:=by rw[kindL,defL_some h]
theorem kind_both (h:∀ d∈l,defB d=true) (s:ByteArray):(groundB s=true∧kindZ l s=0∧kindL l s=0∧atD l s=none)∨(groundB s=false∧atD l s=none∧kindZ l s = -1∧kindL l s=0) ∨
    (groundB s=false∧(∃ j,atD l s=some j)∧kindZ l s=kindL l s∧(kindL l s=1∨kindL l s=2∨kindL l s=3∨kindL l s=4)):=by
  cases hg:groundB s with
  | true =>
    have ha:=ground_at h hg
    exact .inl ⟨rfl,by rw[kindZ,if_pos hg],by rw[kindL,defL_none ha];rfl,ha⟩
  | false =>
    refine .inr ?_
    cases ha:atD l s with
    | none =>
      refine .inl ⟨rfl,rfl,?_,by rw[kindL,defL_none ha];rfl⟩
      have:atZ l s = -1:=by unfold atZ;rw[ha]
      rw[kindZ,if_neg (by rw[hg];decide),if_pos (by omega)]
    | some j =>
      obtain⟨hj,he⟩:=at_mem ha
      refine .inr ⟨rfl,⟨j,rfl⟩,?_,?_⟩
      · have:atZ l s=j:=by unfold atZ;rw[ha]
        rw[kindZ,if_neg (by rw[hg];decide),if_neg (by omega)]
      · rw[kindL_at ha hj]
        exact form_kind h _ (List.getElem_mem hj)
theorem miss_eq (h:∀ d∈l,defB d=true) (s:ByteArray):decide (kindZ l s<0) = !hereB l s:=by
  unfold hereB
  rcases kind_both h s with ⟨h1,h2,h3,h4⟩ | ⟨h1,h2,h3,h4⟩ | ⟨h1,⟨j,h2⟩,h3,h4⟩
  · rw[h1,h2];simp
  · rw[h1,h2,h3];simp
  · rw[h1,h2]
    have:¬ kindZ l s<0:=by omega
    rw[decide_eq_false this];rfl
theorem goes_in (h:∀ d∈l,defB d=true) (s:ByteArray):goesB l s true=givenB l s:=by
  unfold goesB givenB
  rcases kind_both h s with ⟨h1,h2,h3,h4⟩ | ⟨h1,h2,h3,h4⟩ | ⟨h1,⟨j,h2⟩,h3,h4⟩
  · rw[h1,h2];simp
  · rw[h1,h3,h4];decide
  · rw[h1,h3]
    rcases h4 with h4 | h4 | h4 | h4<;>rw[h4]<;>decide
theorem goes_out (h:∀ d∈l,defB d=true) (s:ByteArray):goesB l s false=outB l s:=by
  unfold goesB outB
  rcases kind_both h s with ⟨h1,h2,h3,h4⟩ | ⟨h1,h2,h3,h4⟩ | ⟨h1,⟨j,h2⟩,h3,h4⟩
  · rw[h1,h2];simp
  · rw[h1,h3,h4];decide
  · rw[h1,h3]
    rcases h4 with h4 | h4 | h4 | h4<;>rw[h4]<;>decide
theorem obj_eq (h:∀ d∈l,defB d=true) (s:ByteArray):decide (kindZ l s=1)=decide (kindL l s=1):=by
  rcases kind_both h s with ⟨h1,h2,h3,h4⟩ | ⟨h1,h2,h3,h4⟩ | ⟨h1,⟨j,h2⟩,h3,h4⟩
  · rw[h2,h3]
  · rw[h3,h4];decide
  · rw[h3]
theorem form_words (h:∀ d∈l,defB d=true):∀ d∈l,(d.kind=1∨d.kind=3→d.words=[])∧(d.kind=2∨d.kind=4→d.flds=[]):=fun d hd=>by
  have:=h d hd
  unfold defB at this
  rw[Bool.and_eq_true] at this
  have:=this.2
  split at this
  · rename_i hk
    rw[Bool.and_eq_true] at this
    refine⟨fun _=>List.eq_nil_of_length_eq_zero (of_decide_eq_true this.1),fun e=>by omega⟩
  · rename_i hk
    split at this
    · rw[Bool.and_eq_true] at this
      refine⟨fun e=>absurd e hk,fun _=>List.eq_nil_of_length_eq_zero (of_decide_eq_true this.1)⟩
    · cases this
theorem not_any {α:Type} (p:α→Bool) (l:List α):(!l.any p)=l.all fun x=>!p x:=by
  induction l with
  | nil=>rfl
  | cons x r ih=>simp[← ih]
theorem all_congr {α:Type}{p q:α→Bool}{l:List α} (h:∀ x∈l,p x=q x):l.all p=l.all q:=by
  rw[Bool.eq_iff_iff,List.all_eq_true,List.all_eq_true]
  exact⟨fun k x hx=>by rw[← h x hx];exact k x hx,fun k x hx=>by rw[h x hx];exact k x hx⟩
theorem any_congr {α:Type}{p q:α→Bool}{l:List α} (h:∀ x∈l,p x=q x):l.any p=l.any q:=by
  rw[Bool.eq_iff_iff,List.any_eq_true,List.any_eq_true]
  exact⟨fun ⟨x,hx,k⟩=>⟨x,hx,by rw[← h x hx];exact k⟩,fun ⟨x,hx,k⟩=>⟨x,hx,by rw[h x hx];exact k⟩⟩
theorem missD_eq (h:∀ d∈l,defB d=true) (d:Def) (hd:d∈l):missD l d = !defHere l d:=by
  have hF:d.flds.any (missF l) = !d.flds.all (fldHere l):=by
    rw[← Bool.not_not (d.flds.any (missF l)),not_any]
    refine congrArg _ (all_congr fun f _=>?_)
    unfold missF fldHere
    rw[miss_eq h,Bool.not_or,Bool.not_not,not_any]
    refine congrArg _ (all_congr fun a _=>?_)
    unfold missA
    rw[miss_eq h,Bool.not_not]
  have hW:(wordsOf d).any (missW l) = !d.words.all (wordHere l d):=by
    rw[← Bool.not_not ((wordsOf d).any (missW l)),not_any]
    refine congrArg _ ?_
    unfold wordsOf
    by_cases k2:d.kind=2
    · rw[if_pos k2]
      symm
      refine List.all_eq_true.2 fun w _=>?_
      unfold wordHere
      rw[decide_eq_false (by omega)];rfl
    · rw[if_neg k2]
      by_cases k4:d.kind=4
      · refine all_congr fun w _=>?_
        unfold missW wordHere
        rw[miss_eq h,decide_eq_true k4];simp
      · have hk:=form_kind h d hd
        rw[(form_words h d hd).1 (by omega)];rfl
  unfold missD defHere
  rw[hF,hW,Bool.or_comm, ← Bool.not_and]
theorem badD_eq (h:∀ d∈l,defB d=true) (d:Def) (hd:d∈l):badD l d = !defPlaced l d:=by
  have hk:=form_kind h d hd
  have hF:d.flds.any (badF l (decide (d.kind=3))) = !d.flds.all (fldPlaced l d):=by
    rw[← Bool.not_not (d.flds.any _),not_any]
    refine congrArg _ (all_congr fun f hf=>?_)
    unfold badF fldPlaced placeB
    rw[Bool.not_or,Bool.not_not,not_any]
    have e:(f.args.all fun a=>!badA l a)=f.args.all fun a=>givenB l (baseT a.ty):=all_congr fun a _=>by
      unfold badA
      rw[goes_in h,Bool.not_not]
    rw[e]
    refine congrArg (·&&_) ?_
    by_cases k3:d.kind=3
    · rw[k3];simp[goes_in h]
    · rw[decide_eq_false k3,goes_out h]
      by_cases k1:d.kind=1
      · rw[k1];simp
      · have:d.flds=[]:=(form_words h d hd).2 (by omega)
        rw[this] at hf;cases hf
  have hW:(wordsOf d).any (badW l) = !d.words.all (wordPlaced l d):=by
    rw[← Bool.not_not ((wordsOf d).any _),not_any]
    refine congrArg _ ?_
    unfold wordsOf
    by_cases k2:d.kind=2
    · rw[if_pos k2]
      symm
      refine List.all_eq_true.2 fun w _=>?_
      unfold wordPlaced
      rw[decide_eq_false (by omega)];rfl
    · rw[if_neg k2]
      by_cases k4:d.kind=4
      · refine all_congr fun w _=>?_
        unfold badW wordPlaced
        rw[obj_eq h,decide_eq_true k4];simp
      · rw[(form_words h d hd).1 (by omega)];rfl
  unfold badD defPlaced
  rw[hF,hW,Bool.or_comm, ← Bool.not_and]
theorem names_eq (h:∀ d∈l,defB d=true):namesZ l=if ¬ (l.all (defHere l))=true then 3 else if ¬ (l.all (defPlaced l))=true then 4 else 0:=by
  have e1:l.any (missD l) = !l.all (defHere l):=by
    rw[← Bool.not_not (l.any _),not_any]
    refine congrArg _ (all_congr fun d hd=>?_)
    rw[missD_eq h d hd,Bool.not_not]
  have e2:l.any (badD l) = !l.all (defPlaced l):=by
    rw[← Bool.not_not (l.any _),not_any]
    refine congrArg _ (all_congr fun d hd=>?_)
    rw[badD_eq h d hd,Bool.not_not]
  unfold namesZ cz
  rw[e1,e2]
  cases l.all (defHere l)<;>cases l.all (defPlaced l)<;>rfl
theorem roots_eq (h:∀ d∈l,defB d=true):rootBad l = !rootsB l:=by
  unfold rootBad rootsB
  have hm:decide (0≤atZ l mutS)=(atD l mutS).isSome:=by
    unfold atZ
    cases atD l mutS with
    | none=>rfl
    | some j=>simp
  rw[obj_eq h,obj_eq h,hm]
  cases decide (kindL l queryS=1)<;>cases (atD l mutS).isSome<;>cases decide (kindL l mutS=1)<;>rfl
end
end Go.Proofs.YtlmpjblmmpddeaaGreat
namespace Go.Proofs.YtlmpjblmmpddeaaGreat
open Go.Sh
section
variable {l:List Def}
theorem atD_none_iff {a:List Def}{s:ByteArray}:atD a s=none↔¬ s∈defNames a:=by
  unfold atD
  rw[List.findIdx?_eq_none_iff]
  simp
theorem schGo_once:∀ (r acc:List Def),(defNames acc).Nodup→((schGo acc r).length=acc.length+r.length↔(defNames (acc++r)).Nodup)
  | [],acc,h=>by simpa[schGo] using h
  | d::r,acc,h=>by
    unfold schGo
    split
    · rename_i ha
      have hn:=atD_none_iff.1 ha
      have h2:(defNames (acc++[d])).Nodup:=by
        simp only[defNames,List.map_append,List.map_cons,List.map_nil]
        rw[List.nodup_append]
        refine⟨h,by simp,fun a ha b hb e=>?_⟩
        simp at hb
        exact hn (by rw[← hb, ← e];exact ha)
      have ih:=schGo_once r (acc++[d]) h2
      rw[List.append_assoc] at ih
      rw[show acc++d::r=acc++([d]++r) by simp, ← ih]
      simp;omega
    · rename_i j ha
      have hm:d.name∈defNames acc:=by
        cases hx:atD acc d.name with
        | none=>rw[hx] at ha;cases ha
        | some j=>obtain⟨hj,e⟩:=at_mem hx;exact List.mem_map.2 ⟨_,List.getElem_mem hj,e⟩
      have hl:=(schGo_len r acc).1
      refine⟨fun e=>by simp at e;omega,fun e=>?_⟩
      exfalso
      simp only[defNames,List.map_append,List.map_cons] at e
      rw[List.nodup_append] at e
      exact e.2.2 _ hm _ (List.mem_cons_self) rfl
theorem sch_once (l:List Def):(schL l).length=l.length↔(defNames l).Nodup:=by
  have:=schGo_once l [] (by simp)
  simpa[schL] using this
theorem once_iff {ns:List ByteArray}:onceB ns=true↔(∀ s∈ns,nameB s=true)∧ns.Nodup:=by
  unfold onceB
  rw[allTo_iff]
  unfold List.Nodup
  rw[List.pairwise_iff_getElem]
  constructor
  · intro h
    have h1:∀ j,(hj:j<ns.length)→nameB ns[j]=true∧∀ k,(hk:k<j)→ns[k]≠ns[j]:=fun j hj=>by
      have:=h j hj
      unfold onceP at this
      rw[Bool.and_eq_true,allTo_iff, ← nm_at hj] at this
      refine⟨this.1,fun k hk e=>?_⟩
      have h2:=this.2 k hk
      rw[← nm_at (show k<ns.length by omega)] at h2
      simp[e] at h2
    refine⟨fun s hs=>?_,fun i j hi hj hij=>(h1 j hj).2 i hij⟩
    obtain⟨j,hj,rfl⟩:=List.getElem_of_mem hs
    exact (h1 j hj).1
  · rintro ⟨h1,h2⟩ j hj
    unfold onceP
    rw[Bool.and_eq_true,allTo_iff, ← nm_at hj]
    refine⟨h1 _ (List.getElem_mem hj),fun k hk=>?_⟩
    rw[← nm_at (show k<ns.length by omega)]
    simpa using h2 k j (by omega) hj hk
theorem once_eq (h:∀ d∈l,defB d=true):onceB (defNames l)=true↔(schL l).length=l.length:=by
  rw[sch_once,once_iff]
  exact⟨fun k=>k.2,fun k=>⟨fun s hs=>by
    obtain⟨d,hd,rfl⟩:=List.mem_map.1 hs
    exact (form_name h d hd).1,k⟩⟩
theorem any_filterMap {α β:Type} (f:α→Option β) (p:β→Bool) (l:List α):(l.filterMap f).any p=l.any fun x=>match f x with | some y=>p y | none=>false:=by
  induction l with
  | nil=>rfl
  | cons x r ih =>
    rw[List.filterMap_cons]
    cases hx:f x with
    | none=>simp[hx,ih]
    | some y=>simp[hx,ih]
theorem round_steps_eq (h:∀ d∈l,defB d=true):∀ (m:Nat) (s:ByteArray),roundZ l m s=stepsB (nextN l) (fun s=>decide (kindL l s=3)) m s
  | 0,s=>rfl
  | m+1,s=>by
    rw[roundZ,stepsB]
    by_cases k3:kindL l s=3
    · refine congrArg _ ?_
      have hm:=defL_mem (l:=l) (t:=s) (by omega)
      have hty:=fld_of (h _ hm)
      rw[nextN,if_pos k3,any_filterMap]
      refine any_congr fun f hf=>?_
      rw[round_steps_eq h m]
      have hty:=(hty f hf).1
      unfold fldNext
      cases hr:isReq f.ty with
      | false=>simp
      | true =>
        by_cases kn:kindL l (tyName f.ty)=3
        · rw[if_pos ⟨rfl,kn⟩]
          have hnm:nameB (tyName f.ty)=true:=by
            obtain⟨d,hd,e⟩:=List.mem_map.1 (kind_name (l:=l) (s:=tyName f.ty) (by omega))
            rw[← e];exact (form_name h d hd).1
          have hof:(ofN f.ty).length=0:=by
            cases hq:f.ty with
            | mk t lt b =>
            rw[hq] at hty hnm
            unfold typB at hty
            have hne:t≠noS:=fun e=>by
              have:nameB t=true:=hnm
              rw[e,nameB_no] at this;cases this
            rw[if_neg hne,Bool.and_eq_true] at hty
            exact of_decide_eq_true hty.2
          simp[hof]
        · rw[if_neg (fun e=>kn e.2)]
          have:stepsB (nextN l) (fun s=>decide (kindL l s=3)) m (tyName f.ty)=false:=by
            cases hs:stepsB (nextN l) (fun s=>decide (kindL l s=3)) m (tyName f.ty) with
            | false=>rfl
            | true=>exact absurd (of_decide_eq_true (steps_ok hs)) kn
          simp[this]
    · rw[decide_eq_false k3];rfl
theorem rounds_eq (h:∀ d∈l,defB d=true):roundP l=roundB l:=by
  have hlen:(defNames l).length=l.length:=by simp
  have hB:roundB l=true↔∃ y∈defNames l,Far (nextN l) y y:=by
    unfold roundB
    rw[List.any_eq_true]
    constructor
    · rintro ⟨d,hd,hm⟩
      have:=(needs_self (nx:=nextN l) (U:=defNames l) next_name d.name).1 (by rw[hlen];exact hm)
      exact⟨d.name,List.mem_map.2 ⟨d,hd,rfl⟩,this⟩
    · rintro ⟨y,hy,hf⟩
      obtain⟨d,hd,rfl⟩:=List.mem_map.1 hy
      have:=(needs_self (nx:=nextN l) (U:=defNames l) next_name d.name).2 hf
      rw[hlen] at this
      exact⟨d,hd,this⟩
  have hP:roundP l=true↔∃ y∈defNames l,Far (nextN l) y y:=by
    unfold roundP
    rw[List.any_eq_true]
    constructor
    · rintro ⟨d,hd,hm⟩
      simp only[round_steps_eq h] at hm
      exact steps_round (fun y hy=>kind_name (by rw[of_decide_eq_true hy];decide)) (l.length+1) d.name [] hm (by simp) (by simp) (by simp)
    · rintro ⟨y,hy,hf⟩
      obtain⟨d,hd,rfl⟩:=List.mem_map.1 hy
      refine⟨d,hd,?_⟩
      simp only[round_steps_eq h]
      exact round_steps (fun x y hxy=>decide_eq_true (next_kind hxy).1) hf _ _ hf
  rw[Bool.eq_iff_iff,hP,hB]
theorem check_eq (l:List Def):checkP l=checkB l:=by
  unfold checkP checkB
  by_cases h:¬ (l.all defB)=true
  · rw[if_pos h,if_pos h];split<;>rfl
  · rw[if_neg h,if_neg h]
    have hd:∀ d∈l,defB d=true:=List.all_eq_true.1 (by simpa using h)
    unfold checkQ checkS
    by_cases h10:10<l.length
    · rw[if_pos h10,if_pos h10]
    rw[if_neg h10,if_neg h10]
    by_cases ho:onceB (defNames l)=true
    · have hs:=(once_eq hd).1 ho
      rw[if_neg (show ¬ ¬ onceB (defNames l)=true from fun e=>e ho),if_neg (show ¬ ¬ (schL l).length=l.length from fun e=>e hs),names_eq hd,roots_eq hd,rounds_eq hd]
      by_cases a1:(l.all (defHere l))=true
      · by_cases a2:(l.all (defPlaced l))=true
        · simp only[a1,a2]
          cases rootsB l<;>simp
        · simp[a1,a2]
      · simp[a1]
    · have hs:=fun e=>ho ((once_eq hd).2 e)
      rw[if_pos ho,if_pos hs]
end
variable {gl:Nat→Option D}
theorem p_spCheck (l:List Def) (hl:l.length≤1048576) (hsm:∀ d∈l,DefSm d):PCall Tryz.prog gl 15 [defsD l] (dI (checkB l)):=by
  rw[← check_eq];exact p_spSchemaCheck l hl hsm
theorem p_imCheck (l:List Def) (hl:l.length≤1048576) (hsm:∀ d∈l,DefSm d):PCall Tryz.prog gl 14 [defsD l] (dI (checkB l)):=p_SchemaCheck l (by omega) fun d hd=>def_ok (hsm d hd)
end Go.Proofs.YtlmpjblmmpddeaaGreat
namespace Go.Proofs.YtlmpjblmmpddeaaGreat
open Go.Sh
variable {gl:Nat→Option D}
theorem name_size {s:ByteArray} (h:nameB s=true):1≤s.size∧s.size≤12:=by
  unfold nameB at h
  simp only[Bool.and_eq_true,decide_eq_true_eq] at h
  omega
def mustS (b:Bool) (s:ByteArray):ByteArray:=if b then s++⟨#[33]⟩ else s
def putT:Typ→ByteArray
  | .mk s [] b=>mustS b s
  | .mk s (x::_) b=>mustS b ((⟨#[91]⟩++putT x)++⟨#[93]⟩)
theorem app_size (a b:ByteArray):(a++b).size=a.size+b.size:=ByteArray.size_append
theorem one_size (n:UInt8):(⟨#[n]⟩:ByteArray).size=1:=rfl
theorem mustS_size (b:Bool) (s:ByteArray):(mustS b s).size≤s.size+1:=by
  cases b
  · exact Nat.le_succ _
  · show (s++⟨#[33]⟩).size≤_
    rw[app_size,one_size];omega
theorem typB_cases {s:ByteArray}{l:List Typ}{b:Bool}{d:Nat} (h:typB (.mk s l b) d=true):(l=[]∧s≠noS∧nameB s=true)∨∃ x e,l=[x]∧s=noS∧d=e+1∧typB x e=true:=by
  cases d with
  | zero=>cases h
  | succ d =>
    unfold typB at h
    split at h
    · rename_i hs
      split at h
      · rename_i x
        exact .inr ⟨x,d,rfl,hs,rfl,h⟩
      · cases h
    · rename_i hs
      simp only[Bool.and_eq_true,decide_eq_true_eq] at h
      exact .inl ⟨List.eq_nil_of_length_eq_zero h.2,hs,h.1⟩
theorem putT_size:∀ (d:Nat) (t:Typ),typB t d=true→(putT t).size≤41+3*d
  | d, .mk s l b,h=>by
    rcases typB_cases h with ⟨rfl,hs,hn⟩ | ⟨x,e,rfl,rfl,rfl,hx⟩
    · have h1:=mustS_size b s
      have h2:=(name_size hn).2
      unfold putT
      omega
    · have ih:=putT_size e x hx
      have h1:=mustS_size b ((⟨#[91]⟩++putT x)++⟨#[93]⟩)
      rw[app_size,app_size,one_size,one_size] at h1
      unfold putT
      omega
theorem typB_up:∀ (d:Nat) (t:Typ),typB t d=true→typB t (d+1)=true
  | d, .mk s l b,h=>by
    rcases typB_cases h with ⟨rfl,hs,hn⟩ | ⟨x,e,rfl,rfl,rfl,hx⟩
    · unfold typB
      rw[if_neg hs,hn];rfl
    · have ih:=typB_up e x hx
      unfold typB
      rw[if_pos rfl]
      exact ih
theorem typB_three {d:Nat}{t:Typ} (h:typB t d=true) (hd:d≤3):typB t 3=true:=by
  have h0:d≠0:=fun e=>by subst e;cases t;cases h
  have:d=1∨d=2∨d=3:=by omega
  rcases this with rfl | rfl | rfl
  · exact typB_up _ _ (typB_up _ _ h)
  · exact typB_up _ _ h
  · exact h
set_option maxHeartbeats 4000000 in
theorem p_l2Put:∀ (d:Nat) (t:Typ),typB t d=true→d≤3→PCall Tryz.prog gl 181 [t.d] (dS (putT t))
  | d, .mk s l b,h,hd=>by
    rcases typB_cases h with ⟨rfl,hs,hn⟩ | ⟨x,e,rfl,rfl,rfl,hx⟩
    · have h2:=(name_size hn).2
      have e1:s.size+(⟨#[33]⟩:ByteArray).size≤9223372036854775807:=by rw[one_size];omega
      refine PCall.by_ (md:=[]) Tryz.func181 rfl (by kernel_rfl) (n:=22) Tryz.ntmps181 (by simp) (by decide) rfl ?_
      simp[Typ.cells,putT,mustS]
      cases b
      · simp
      · simp
        rw[if_pos e1]
        simp
    · have ih:=p_l2Put e x hx (by omega)
      have hz:=putT_size e x hx
      have e0:(⟨#[91]⟩:ByteArray).size+(putT x).size≤9223372036854775807:=by rw[one_size];omega
      have e2:(⟨#[91]⟩:ByteArray).size+(putT x).size+(⟨#[93]⟩:ByteArray).size≤9223372036854775807:=by rw[one_size,one_size];omega
      have e1:(⟨#[91]⟩:ByteArray).size+(putT x).size+(⟨#[93]⟩:ByteArray).size+(⟨#[33]⟩:ByteArray).size≤9223372036854775807:=by rw[one_size,one_size,one_size];omega
      have hc:typsCells [x]=x.cells:=by simp[typsCells]
      have tl:=tcells_len x
      have tt:List.take 3 x.cells=x.cells:=List.take_of_length_le (by omega)
      have hput:putT (.mk noS [x] b)=mustS b ((⟨#[91]⟩++putT x)++⟨#[93]⟩):=by rw[putT]
      rw[hput]
      refine PCall.by_ (md:=[]) Tryz.func181 rfl (by kernel_rfl) (n:=22) Tryz.ntmps181 (by simp) (by decide) rfl ?_
      simp[Typ.cells,hc,tl,tt,mustS]
      repeat refine⟨DrawT.mk (by kernel_rfl),?_⟩
      refine CallT.p0 (ih) (by first | rfl | (simp;done)|(simp[Typ.cells,hc,tl,tt,mustS];done)) (by first | rfl | (simp;done)|(simp;rfl)|(simp[Typ.cells,hc,tl,tt,mustS];done)) ?_
      simp
      rw[if_pos e0]
      simp
      rw[if_pos e2]
      simp
      cases b
      · simp
      · simp
        rw[if_pos e1]
        simp
set_option maxHeartbeats 4000000 in
theorem p_TypePut:∀ (d:Nat) (t:Typ),typB t d=true→d≤3→TLe 4611686018427387904 t→PCall Tryz.prog gl 201 [t.d] (dS (putT t))
  | d, .mk s l b,h,hd,ht=>by
    have hF:=p_typeForm (gl:=gl) (.mk s l b) ht
    rw[typB_three h hd] at hF
    rcases typB_cases h with ⟨rfl,hs,hn⟩ | ⟨x,e,rfl,rfl,rfl,hx⟩
    · have h2:=(name_size hn).2
      have e1:s.size+(⟨#[33]⟩:ByteArray).size≤9223372036854775807:=by rw[one_size];omega
      refine PCall.by_ (md:=[]) Tryz.func201 rfl (by kernel_rfl) (n:=23) Tryz.ntmps201 (by simp) (by decide) rfl ?_
      simp[Typ.cells,putT,mustS]
      repeat refine⟨DrawT.mk (by kernel_rfl),?_⟩
      refine CallT.p0 (hF) (by first | rfl | (simp;done)|(simp[Typ.cells,putT,mustS,hs];done)) (by first | rfl | (simp;done)|(simp;rfl)|(simp[Typ.cells,putT,mustS,hs];done)) ?_
      simp[hs]
      cases b
      · simp
      · simp
        rw[if_pos e1]
        simp
    · have ih:=p_TypePut e x hx (by omega) (by cases ht with | mk h1 h2 h3=>exact h3 x (by simp))
      have hz:=putT_size e x hx
      have e0:(⟨#[91]⟩:ByteArray).size+(putT x).size≤9223372036854775807:=by rw[one_size];omega
      have e2:(⟨#[91]⟩:ByteArray).size+(putT x).size+(⟨#[93]⟩:ByteArray).size≤9223372036854775807:=by rw[one_size,one_size];omega
      have e1:(⟨#[91]⟩:ByteArray).size+(putT x).size+(⟨#[93]⟩:ByteArray).size+(⟨#[33]⟩:ByteArray).size≤9223372036854775807:=by rw[one_size,one_size,one_size];omega
      have hc:typsCells [x]=x.cells:=by simp[typsCells]
      have tl:=tcells_len x
      have tt:List.take 3 x.cells=x.cells:=List.take_of_length_le (by omega)
      have hput:putT (.mk noS [x] b)=mustS b ((⟨#[91]⟩++putT x)++⟨#[93]⟩):=by rw[putT]
      rw[hput]
      refine PCall.by_ (md:=[]) Tryz.func201 rfl (by kernel_rfl) (n:=23) Tryz.ntmps201 (by simp) (by decide) rfl ?_
      simp[Typ.cells,hc,mustS]
      repeat refine⟨DrawT.mk (by kernel_rfl),?_⟩
      refine CallT.p0 (hF) (by first | rfl | (simp;done)|(simp[Typ.cells,hc,tl,tt,mustS];done)) (by first | rfl | (simp;done)|(simp;rfl)|(simp[Typ.cells,hc];done)) ?_
      simp[tl,tt]
      repeat refine⟨DrawT.mk (by kernel_rfl),?_⟩
      refine CallT.p0 (ih) (by first | rfl | (simp;done)|(simp[Typ.cells,hc,tl,tt,mustS];done)) (by first | rfl | (simp;done)|(simp;rfl)|(simp[Typ.cells,hc,tl,tt,mustS];done)) ?_
      simp
      rw[if_pos e0]
      simp
      rw[if_pos e2]
      simp
      cases b
      · simp
      · simp
        rw[if_pos e1]
        simp
def sameT (a b:Typ):Bool:=decide (putT a=putT b)
set_option maxHeartbeats 4000000 in
theorem p_l9Type (a b:Typ) (ha:typB a 3=true) (hb:typB b 3=true):PCall Tryz.prog gl 147 [a.d,b.d] (dB (sameT a b)):=by
  have hA:=p_l2Put (gl:=gl) 3 a ha (by omega)
  have hB:=p_l2Put (gl:=gl) 3 b hb (by omega)
  unfold sameT
  generalize putT a=x at *
  generalize putT b=y at *
  obtain⟨sa,al,ab⟩:=a
  obtain⟨sb,bl,bb⟩:=b
  refine PCall.by_ (md:=[]) Tryz.func147 rfl (by kernel_rfl) (n:=10) Tryz.ntmps147 (by simp) (by decide) rfl ?_
  simp[Typ.cells]
  repeat refine⟨DrawT.mk (by kernel_rfl),?_⟩
  refine CallT.p0 (hA) (by first | rfl | (simp;done)|(simp[Typ.cells];done)) (by first | rfl | (simp;done)|(simp;rfl)|(simp[Typ.cells];done)) ?_
  simp
  repeat refine⟨DrawT.mk (by kernel_rfl),?_⟩
  refine CallT.p0 (hB) (by first | rfl | (simp;done)|(simp[Typ.cells];done)) (by first | rfl | (simp;done)|(simp;rfl)|(simp[Typ.cells];done)) ?_
  simp
end Go.Proofs.YtlmpjblmmpddeaaGreat
