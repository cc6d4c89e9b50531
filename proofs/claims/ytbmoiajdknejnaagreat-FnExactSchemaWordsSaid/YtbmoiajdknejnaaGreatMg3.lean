/- ShH and what follows it, one behind another. -/
import Derived.Test.YtbmoiajdknejnaaGreatMg2
set_option linter.unusedVariables false
set_option linter.unusedSimpArgs false
namespace Go.Sh
open Go.RowKit (Below)
section
variable {P:Program}{E E':Env}{S S':St}
inductive CallK where
  | fn (g:FuncId) (xs:List Operand)
  | inv (x:Operand) (name:String) (xs:List Operand)
  | dyn (x:Operand) (xs:List Operand)
def callOf:Op→Option CallK
  | .call { callee:=.value (.func g),args:=xs, .. }=>some (.fn g xs.toList)
  | .call { callee:=.invoke x name,args:=xs, .. }=>some (.inv x name xs.toList)
  | .call { callee:=.value (.tmp t),args:=xs, .. }=>some (.dyn (.tmp t) xs.toList)
  | _=>none
theorem callOf_fn {op:Op}{g:FuncId}{xs:List Operand} (h:callOf op=some (.fn g xs)):∃ ts,op=.call { callee:=.value (.func g),args:=xs.toArray,argTypes:=ts }:=by
  unfold callOf at h
  split at h
  · rename_i g' ys ts;simp only[Option.some.injEq,CallK.fn.injEq] at h;obtain⟨rfl,rfl⟩:=h;exact⟨ts,by simp⟩
  · cases h
  · cases h
  · cases h
theorem callOf_inv {op:Op}{x:Operand}{name:String}{xs:List Operand} (h:callOf op=some (.inv x name xs)):∃ ts,op=.call { callee:=.invoke x name,args:=xs.toArray,argTypes:=ts }:=by
  unfold callOf at h
  split at h
  · cases h
  · rename_i x' n' ys ts;simp only[Option.some.injEq,CallK.inv.injEq] at h;obtain⟨rfl,rfl,rfl⟩:=h;exact⟨ts,by simp⟩
  · cases h
  · cases h
theorem callOf_dyn {op:Op}{x:Operand}{xs:List Operand} (h:callOf op=some (.dyn x xs)):∃ ts,op=.call { callee:=.value x,args:=xs.toArray,argTypes:=ts }:=by
  unfold callOf at h
  split at h
  · cases h
  · cases h
  · rename_i t ys ts;simp only[Option.some.injEq,CallK.dyn.injEq] at h;obtain⟨rfl,rfl⟩:=h;exact⟨ts,by simp⟩
  · cases h
def foldF {X:Type} (f:Nat→X→X) (L:Nat→Bool):Nat→X→X
  | 0,x=>x
  | n+1,x=>if L n=true then f n (foldF f L n x) else foldF f L n x
theorem foldF_congr {X:Type}{f:Nat→X→X}{L M:Nat→Bool}:∀ {n:Nat}{x:X},(∀ j,j<n→(∀ y,f j y=y)∨L j=M j)→foldF f L n x=foldF f M n x
  | 0,x,h=>rfl
  | n+1,x,h=>by
    have ih:=foldF_congr (x:=x) fun j hj=>h j (Nat.lt_succ_of_lt hj)
    simp only[foldF]
    rcases h n (Nat.lt_succ_self n) with h1 | h1
    · rw[ih]
      by_cases a:L n=true<;>by_cases b:M n=true<;>simp[a,b,h1]
    · rw[h1,ih]
theorem foldF_insert {X:Type}{f:Nat→X→X}{L:Nat→Bool}{i:Nat}:∀ {n:Nat}{x:X},i<n→L i=false→(∀ j,i<j→j<n→L j=true→∀ y,f j (f i y)=f i (f j y)) →
    foldF f (fun j=>L j || j == i) n x=f i (foldF f L n x)
  | 0,x,h,_,_=>by omega
  | n+1,x,h,hi,hc=>by
    simp only[foldF]
    by_cases e:n=i
    · subst e
      have:foldF f (fun j=>L j || j == n) n x=foldF f L n x:=foldF_congr fun j hj=>.inr (by simp;omega)
      rw[if_pos (by simp),if_neg (by simp[hi]),this]
    · have ih:=foldF_insert (x:=x) (show i<n by omega) hi (fun j h1 h2=>hc j h1 (by omega))
      rw[ih]
      by_cases a:L n=true
      · rw[if_pos (by simp[a]),if_pos a]
        exact hc n (by omega) (by omega) a _
      · rw[if_neg (by simp[a];omega),if_neg a]
def maskOf (ms:List Nat) (o:Oper):Nat:=o.after.toList.foldl (fun s e=>if Region.binds .any e=true then s ||| 2 ^ e.on ||| ms.getD e.on 0 else s) 0
def masksFrom:List Nat→List Oper→List Nat
  | ms,[]=>ms
  | ms,o::l=>masksFrom (ms++[maskOf ms o]) l
def masks (ops:List Oper):List Nat:=masksFrom [] ops
theorem masksFrom_get:∀ (l:List Oper) (ms:List Nat),(∀ j,j<ms.length→(masksFrom ms l).getD j 0=ms.getD j 0) ∧
    ∀ k (h:k<l.length),∃ ps:List Nat,ps.length=ms.length+k∧(∀ j,j<ps.length→(masksFrom ms l).getD j 0=ps.getD j 0)∧(masksFrom ms l).getD (ms.length+k) 0=maskOf ps l[k]
  | [],ms=>⟨fun j hj=>rfl,fun k h=>by simp at h⟩
  | o::l,ms=>by
    obtain⟨h1,h2⟩:=masksFrom_get l (ms++[maskOf ms o])
    have e1:∀ j,j<ms.length→(ms++[maskOf ms o]).getD j 0=ms.getD j 0:=fun j hj=>by
      rw[List.getD_eq_getElem?_getD,List.getD_eq_getElem?_getD,List.getElem?_append_left hj]
    refine⟨fun j hj=>?_,fun k hk=>?_⟩
    · simp only[masksFrom]
      rw[h1 j (by simp;omega),e1 j hj]
    · cases k with
      | zero =>
        refine⟨ms,by simp,fun j hj=>?_,?_⟩
        · simp only[masksFrom]
          rw[h1 j (by simp;omega),e1 j hj]
        · simp only[masksFrom,Nat.add_zero]
          rw[h1 ms.length (by simp)]
          simp
      | succ k =>
        obtain⟨ps,p1,p2,p3⟩:=h2 k (by simpa using hk)
        refine⟨ps,by simp at p1;omega,fun j hj=>by simp only[masksFrom];exact p2 j hj,?_⟩
        simp only[masksFrom,List.getElem_cons_succ]
        rw[← p3]
        simp[Nat.add_assoc,Nat.add_comm 1]
theorem maskOf_bit {ms:List Nat}{o:Oper}{j:Nat} (h:(maskOf ms o).testBit j=true):∃ e∈o.after.toList,Region.binds .any e=true∧(e.on=j∨(ms.getD e.on 0).testBit j=true):=by
  unfold maskOf at h
  have key:∀ (l:List Edge) (s:Nat),(l.foldl (fun s e=>if Region.binds .any e=true then s ||| 2 ^ e.on ||| ms.getD e.on 0 else s) s).testBit j=true→s.testBit j=true∨∃ e∈l,Region.binds .any e=true∧(e.on=j∨(ms.getD e.on 0).testBit j=true):=by
    intro l
    induction l with
    | nil=>intro s hs;exact .inl hs
    | cons e l ih =>
      intro s hs
      rw[List.foldl_cons] at hs
      rcases ih _ hs with h1 | ⟨e',h1,h2⟩
      · split at h1
        · rename_i hb
          simp only[Nat.testBit_or,Bool.or_eq_true] at h1
          rcases h1 with (h1 | h1) | h1
          · exact .inl h1
          · rw[Nat.testBit_two_pow] at h1
            exact .inr ⟨e,List.mem_cons_self ..,hb, .inl (by simpa using h1)⟩
          · exact .inr ⟨e,List.mem_cons_self ..,hb, .inr h1⟩
        · exact .inl h1
      · exact .inr ⟨e',List.mem_cons_of_mem _ h1,h2⟩
  rcases key _ _ h with h1 | h1
  · simp at h1
  · exact h1
def anc (ops:List Oper) (i j:Nat):Bool:=((masks ops).getD i 0).testBit j
theorem anc_step {ops:List Oper}{i j:Nat} (hi:i<ops.length) (h:anc ops i j=true):∃ e∈(ops[i]).after.toList,Region.binds .any e=true∧(e.on=j∨(e.on<i∧anc ops e.on j=true)):=by
  unfold anc masks at h
  obtain⟨ps,p1,p2,p3⟩:=(masksFrom_get ops []).2 i hi
  simp only[List.length_nil,Nat.zero_add] at p1 p3
  rw[p3] at h
  obtain⟨e,h1,h2,h3⟩:=maskOf_bit h
  refine⟨e,h1,h2,h3.imp id (fun h4=>?_)⟩
  have hlt:e.on<ps.length:=by
    rcases Nat.lt_or_ge e.on ps.length with h5 | h5
    · exact h5
    · rw[List.getD_eq_getElem?_getD,List.getElem?_eq_none h5] at h4
      simp at h4
  refine⟨by omega,?_⟩
  unfold anc masks
  rw[p2 _ hlt]
  exact h4
structure Mem where
  rB:Bool
  wB:Bool
  rT:Bool
  wT:Bool
  /-- it makes one of its own number alone -/
  own:Bool
def memOf:Op→Mem
  | .alloc _ | .box ..=>⟨false,true,false,false,true⟩
  | .makeSlice ..=>⟨false,true,false,true,true⟩
  | .convert ..=>⟨false,false,false,true,true⟩
  | .load ..=>⟨true,false,false,false,false⟩
  | .store ..=>⟨true,true,false,false,false⟩
  | .call { callee:=.builtin .append, .. }=>⟨true,true,true,true,false⟩
  | _=>⟨false,false,false,false,false⟩
def looksAt (ops:Array Oper) (o:Oper):List Nat :=
  (o.op.operands.toList.filterMap fun | .tmp t=>some t | _=>none) ++
  (match o.guard with
   | some (g,_)=>((ops[g]?).bind (·.dst)).toList
   | none=>[])
def isCall (op:Op):Bool:=(callOf op).isSome
def touches (op:Op):Bool:=(memOf op).rB || (memOf op).wB || (memOf op).rT || (memOf op).wT
def cmp (ops:List Oper) (i j:Nat):Bool:=anc ops i j || anc ops j i
def loudAt (ops:List Oper) (i:Nat):Bool :=
  decide (i<ops.length)&&(List.range ops.length).all fun j=>j == i || cmp ops i j || !((ops[j]?).map fun o=>isCall o.op || touches o.op).getD true
def clash (a b:Mem):Bool :=
  (a.rB&&b.wB) || (b.rB&&a.wB) || (a.rT&&b.wT) || (b.rT&&a.wT) || (a.wB&&b.wB && !(a.own&&b.own)) || (a.wT&&b.wT && !(a.own&&b.own))
def addrX:Op→Option Operand
  | .load _ x=>some x
  | .store _ x _=>some x
  | _=>none
def refOf:Option SV→Option Nat
  | some (.op b _)=>some b
  | _=>none
def addrB (E:Env) (op:Op):Option Nat:=match addrX op with | some x=>refOf (evalO E x) | none=>none
def apart:Option Nat→Option Nat→Prop
  | some b,some c=>b≠c
  | _,_=>False
abbrev Spl:=List ((Nat×Nat)×(Nat×Nat))
def SepT:Spl→Env→Prop
  | [],_=>True
  | (x,y)::l,E=>apart (refOf (E x.2)) (refOf (E y.2))∧SepT l E
theorem SepT.of:∀ {sp:Spl}{E:Env},SepT sp E→∀ p∈sp,apart (refOf (E p.1.2)) (refOf (E p.2.2))
  | (x,y)::l,E,h,p,hp=>by
    rcases List.mem_cons.1 hp with e | hp
    · subst e;exact h.1
    · exact SepT.of h.2 p hp
abbrev Old:=List ((Nat×Nat)×Nat)
def below:Nat→Option Nat→Prop
  | n,some b=>b<n
  | _,none=>False
def OldT:Old→Nat→Env→Prop
  | [],_,_=>True
  | (x,_)::l,n,E=>below n (refOf (E x.2))∧OldT l n E
theorem OldT.of:∀ {ol:Old}{n:Nat}{E:Env},OldT ol n E→∀ p∈ol,below n (refOf (E p.1.2))
  | (x,y)::l,n,E,h,p,hp=>by
    rcases List.mem_cons.1 hp with e | hp
    · subst e;exact h.1
    · exact OldT.of h.2 p hp
def isNew:Op→Bool
  | .alloc _ | .box ..=>true
  | _=>false
def rootOf (ops:Array Oper):Nat→Nat→Option Nat
  | 0,t=>some t
  | n+1,t=>match ops[n]? with
    | none=>none
    | some o=>if o.dst=some t then (match o.guard,o.op with
        | none, .move (.tmp u)=>rootOf ops n u
        | none, .fieldAddr _ (.tmp u) _=>rootOf ops n u
        | _,_=>none) else rootOf ops n t
def spAt (ops:Array Oper) (x:Nat×Nat):Bool:=match ops[x.1]? with
  | some o=>match addrX o.op with
    | some (.tmp t)=>decide (t<globalsAt)&&rootOf ops x.1 t == some x.2
    | _=>false
  | none=>false
def isLoad:Op→Bool
  | .load ..=>true
  | _=>false
def earOk (ops:Array Oper) (i j:Nat):Bool:=((ops[i]?).map fun o=>isNew o.op).getD false&&((ops[j]?).map fun o=>isLoad o.op).getD false&&(List.range j).all fun q=>!((ops[q]?).map fun o=>isCall o.op).getD true
def pairOk (opsA:Array Oper) (ops:List Oper) (sp:Spl) (ol:Old) (i j:Nat):Bool :=
  match ops[i]?,ops[j]? with
  | some a,some b=>!(a.dst.isSome&&a.dst == b.dst)&&(cmp ops i j || (!(b.dst.any fun d=>(looksAt opsA a).contains d) && !(a.dst.any fun d=>(looksAt opsA b).contains d)&&(!clash (memOf a.op) (memOf b.op) || (sp.any fun p=>p.1.1 == i&&p.2.1 == j) || (ol.any fun p=>p.1.1 == i&&p.2 == j || p.1.1 == j&&p.2 == i) || earOk opsA i j)))
  | _,_=>true
def drawOk (P:Program) (ops:Array Oper) (sp:Spl) (ol:Old):Bool :=
  P.follows .mixedOrders&&(ops.toList.all fun o=>match o.op with | .select ..=>false | _=>true) &&
  ((List.range ops.size).all fun i=>(((ops[i]?).map (·.after.toList)).getD []).all fun e=>!Region.binds .any e || e.on<i) &&
  ((List.range ops.size).all fun i=>(List.range i).all fun j=>pairOk ops ops.toList sp ol i j)&&(sp.all fun p=>spAt ops p.1&&spAt ops p.2)&&ol.all fun p=>spAt ops p.1&&((ops[p.2]?).map fun o=>isNew o.op).getD false
def rootAt (ops:Array Oper) (j:Nat):Option Nat:=match ops[j]? with
  | some o=>match addrX o.op with
    | some (.tmp t)=>if t<globalsAt then rootOf ops j t else none
    | _=>none
  | none=>none
def rootFree (ops:Array Oper) (j:Nat):Bool:=match rootAt ops j with
  | some s=>ops.toList.all fun o=>!(o.dst == some s)
  | none=>false
def freeAt (ops:Array Oper) (i:Nat):Bool :=
  decide (i<ops.size)&&(List.range ops.size).all fun j=>j == i || cmp ops.toList i j || !((ops[j]?).map fun o=>isCall o.op || touches o.op).getD true || ((ops[j]?).map fun o=>isNew o.op || (isLoad o.op&&rootFree ops j)).getD false
def oldOf (ops:Array Oper) (i:Nat):Old:=(List.range ops.size).filterMap fun j=>if (j == i || cmp ops.toList i j)=true then none else if ((ops[j]?).map fun o=>isLoad o.op).getD false=true then (rootAt ops j).map fun s=>((j,s),i) else none
def drawLo (ops:Array Oper) (i:Nat):Bool:=if i<ops.size then loudAt ops.toList i else if i=ops.size then false else freeAt ops (i - (ops.size+1))
def Br (b:Bool) (x y:Prop):Prop:=(b=true→x)∧(b=false→y)
structure Lo where
  loud:Bool
  free:Prop
  base:Nat
  top:Nat
structure OwnK (P:Program) (g:FuncId) (ss:List SV) (S:St) (base top:Nat) (r:SV) (fB:(Nat→Option (List SV))→(Nat→Option (List SV))) (m:Nat):Prop where
  call:∀ S1:St,S1.n=S.n→S1.nx=S.nx→S1.gl=S.gl→S1.md=S.md→S1.T=S.T→(∀ b,b<base→S1.B b=S.B b)→LCall P g ss S1 r { S1 with B:=fB S1.B,nx:=m }
  loc:∀ B q cs,q<top→fB (upd B q cs)=upd (fB B) q cs
  keep:∀ B b,b<top→fB B b=B b
  pw:∀ B C b,B b=C b→fB B b=fB C b
def Callv (lo:Lo) (P:Program) (g:FuncId) (ss:List SV) (S:St) (K:SV→St→Prop):Prop :=
  (∃ ds r,toDs ss=some ds∧PCall P S.gl g ds r∧K (.d r) S)∨(lo.loud=true∧∃ r S',LCall P g ss S r S'∧K r S') ∨
  (lo.free∧∃ r fB m,OwnK P g ss S lo.base lo.top r fB m∧K r { S with B:=fB S.B,nx:=m })
def loAt (lo:Nat→Bool) (ops:Array Oper) (base i:Nat) (E:Env):Lo:=⟨lo i,lo ops.size=false∧lo (ops.size+1+i)=true∧OldT (oldOf ops i) base E,base,base+ops.size⟩
def Invk (P:Program) (t:TypeId) (y:D) (name:String) (ss:List SV) (S:St) (K:SV→Prop):Prop :=
  ∃ g ds r,methOf P t name=some g∧toDs ss=some ds∧PCall P S.gl g (y::ds) r∧K (.d r)
def dstOk (d:Option Nat) (n:Nat):Bool:=match d with | some k=>decide (k<n) | none=>true
theorem dstOk_ok {d:Option Nat}{n:Nat} (h:dstOk d n=true):∀ k,d=some k→k<n:=by
  intro k e;subst e;simpa[dstOk] using h
def Op1 (r:Option (SV×Eff)) (K:SV→Eff→Prop):Prop:=match r with | some (s,e)=>K s e | none=>False
def ArgK (r:Option (List SV)) (K:List SV→Prop):Prop:=match r with | some ss=>K ss | none=>False
def RecK (r:Option SV) (K:TypeId→D→Prop):Prop:=match r with | some (.d (.ifc t y))=>K t y | _=>False
def FnK (r:Option SV) (K:FuncId→List SV→List SV→Prop):Prop:=match r.bind fnS with | some (g,fs,cs)=>K g fs cs | none=>False
def Want (r:Option Bool) (x y:Prop):Prop:=match r with | some b=>Br b x y | none=>False
def VL (lo:Nat→Bool) (P:Program) (ops:Array Oper) (base:Nat):Nat→List Oper→Env→St→(Env→St→Prop)→Prop
  | _,[],E,S,Q=>Q E S
  | i,o::l,E,S,Q=>dstOk o.dst S.n=true∧Want (wantS ops E o) (match callOf o.op with
        | some (.fn g xs)=>ArgK (argsS E xs) (fun ss=>Callv (loAt lo ops base i E) P g ss S (fun r S'=>VL lo P ops base (i+1) l (E.put o.dst r) S' Q))
        | some (.inv x name xs)=>RecK (evalO E x) (fun t y=>ArgK (argsS E xs) (fun ss=>Invk P t y name ss S (fun r=>VL lo P ops base (i+1) l (E.put o.dst r) S Q)))
        | some (.dyn x xs)=>FnK (evalO E x) (fun g fs cs=>ArgK (argsS E xs) (fun ss=>Callv ⟨lo ops.size,False,0,0⟩ P g (fs++ss++cs) S (fun r S'=>VL lo P ops base (i+1) l (E.put o.dst r) S' Q)))
        | none=>Op1 (evalOp P E S (base+i) o) (fun s e=>VL lo P ops base (i+1) l (E.put o.dst s) (S.app (base+i) e) Q)∨(lo ops.size=true∧evalX P E S (base+i) o (fun s e=>VL lo P ops base (i+1) l (E.put o.dst s) (S.app (base+i) e) Q))) (VL lo P ops base (i+1) l (E.put o.dst (.d (.v undef))) S Q)
structure Out where
  w:Bool
  s:SV
  fB:(Nat→Option (List SV))→(Nat→Option (List SV))
  fT:(Nat→Option (Nat×Nat))→(Nat→Option (Nat×Nat))
  fx:Nat→Nat
def St.out (S:St) (o:Out):St:={ S with B:=o.fB S.B,T:=o.fT S.T,nx:=o.fx S.nx }
def effB (id:Nat):Eff→(Nat→Option (List SV))→(Nat→Option (List SV))
  | .no,B=>B
  | .new cs,B=>upd B id cs
  | .set b cs,B=>upd B b cs
  | .tip _ _ _,B=>B
  | .mov b cs,B=>upd (fun x=>if x=b then none else B x) id cs
def effT:Eff→(Nat→Option (Nat×Nat))→(Nat→Option (Nat×Nat))
  | .tip i k sz,T=>upd T i (k,sz)
  | _,T=>T
theorem app_out (id:Nat) (e:Eff) (w:Bool) (s:SV):S.out ⟨w,s,effB id e,effT e,fun x=>x⟩=S.app id e:=by cases e<;>rfl
inductive How (lo:Lo) (P:Program) (id:Nat) (o:Oper) (E:Env) (S:St):Out→Prop
  | op {s:SV} {e:Eff} (hc:callOf o.op=none) (h:evalOp P E S id o=some (s,e)):How lo P id o E S ⟨true,s,effB id e,effT e,fun x=>x⟩
  | call {g:FuncId} {xs:List Operand} {ss:List SV} {ds:List D} {r:D} (hc:callOf o.op=some (.fn g xs)) (ha:argsS E xs=some ss) (hd:toDs ss=some ds) (h:PCall P S.gl g ds r):How lo P id o E S ⟨true, .d r,fun x=>x,fun x=>x,fun x=>x⟩
  | inv {x:Operand} {name:String} {xs:List Operand} {ss:List SV} {t:TypeId} {y:D} {ds:List D} {g:FuncId} {r:D} (hc:callOf o.op=some (.inv x name xs)) (hx:evalO E x=some (.d (.ifc t y))) (ha:argsS E xs=some ss) (hm:methOf P t name=some g) (hd:toDs ss=some ds) (h:PCall P S.gl g (y::ds) r) :
      How lo P id o E S ⟨true, .d r,fun x=>x,fun x=>x,fun x=>x⟩
  | dyn {x:Operand} {xs:List Operand} {s:SV} {fs cs ss:List SV} {ds:List D} {g:FuncId} {r:D} (hc:callOf o.op=some (.dyn x xs)) (hx:evalO E x=some s) (hf:fnS s=some (g,fs,cs)) (ha:argsS E xs=some ss) (hd:toDs (fs++ss++cs)=some ds) (h:PCall P S.gl g ds r) :
      How lo P id o E S ⟨true, .d r,fun x=>x,fun x=>x,fun x=>x⟩
  | loud {g:FuncId} {xs:List Operand} {ss:List SV} {r:SV} {S':St} (hl:lo.loud=true) (hc:callOf o.op=some (.fn g xs)) (ha:argsS E xs=some ss) (h:LCall P g ss S r S'):How lo P id o E S ⟨true,r,fun _=>S'.B,fun _=>S'.T,fun _=>S'.nx⟩
  | own {g:FuncId} {xs:List Operand} {ss:List SV} {r:SV} {fB:(Nat→Option (List SV))→(Nat→Option (List SV))} {m:Nat} (hl:lo.free) (hc:callOf o.op=some (.fn g xs)) (ha:argsS E xs=some ss) (h:OwnK P g ss S lo.base lo.top r fB m):How lo P id o E S ⟨true,r,fB,fun T=>T,fun _=>m⟩
theorem How.opS {lo:Lo}{id:Nat}{o:Oper}{ot:Out} (h:How lo P id o E S ot):OpS P id E S o ot.s (S.out ot):=by
  cases h with
  | op hc h=>rw[app_out];exact OpS.eval h
  | call hc ha hd h =>
    obtain⟨ts,ho⟩:=callOf_fn hc
    exact OpS.call ho ha hd h
  | inv hc hx ha hm hd h =>
    obtain⟨ts,ho⟩:=callOf_inv hc
    exact OpS.invoke ho hx hm ha hd h
  | dyn hc hx hf ha hd h =>
    obtain⟨ts,ho⟩:=callOf_dyn hc
    exact OpS.dyn ho hx hf ha hd h
  | loud hl hc ha h =>
    rename_i g xs ss r S1
    obtain⟨ts,ho⟩:=callOf_fn hc
    have e:S.out ⟨true,r,fun _=>S1.B,fun _=>S1.T,fun _=>S1.nx⟩=S1:=by
      have k:=h.2.1
      unfold St.out
      rw[← k.n, ← k.md, ← k.gl]
    rw[e]
    exact OpS.lcall ho ha h
  | own hl hc ha h =>
    obtain⟨ts,ho⟩:=callOf_fn hc
    exact OpS.lcall ho ha (h.call S rfl rfl rfl rfl rfl fun _ _=>rfl)
def Step1 (lo:Lo) (P:Program) (ops:Array Oper) (id:Nat) (o:Oper) (E:Env) (S:St) (ot:Out):Prop :=
  dstOk o.dst S.n=true∧wantS ops E o=some ot.w∧(ot.w=true→How lo P id o E S ot)∧(ot.w=false→ot=⟨false, .d (.v undef),fun x=>x,fun x=>x,fun x=>x⟩)
def Tr (lo:Nat→Bool) (P:Program) (ops:Array Oper) (base:Nat):Nat→List Oper→Env→St→List Out→Env→St→Prop
  | _,[],E,S,[],E',S'=>E'=E∧S'=S
  | i,o::l,E,S,ot::r,E',S'=>Step1 (loAt lo ops base i E) P ops (base+i) o E S ot∧Tr lo P ops base (i+1) l (E.put o.dst ot.s) (S.out ot) r E' S'
  | _,_,_,_,_,_,_=>False
theorem VL.trace {lo:Nat→Bool}{ops:Array Oper}{base:Nat}:∀ {l:List Oper}{i:Nat}{E:Env}{S:St}{Q:Env→St→Prop},VL lo P ops base i l E S Q→lo ops.size=false→∃ r E' S',Tr lo P ops base i l E S r E' S'∧Q E' S'
  | [],i,E,S,Q,h,_=>⟨[],E,S,⟨rfl,rfl⟩,h⟩
  | o::l,i,E,S,Q,h,hlo=>by
    unfold VL at h
    obtain⟨hd,h⟩:=h
    cases hw:wantS ops E o with
    | none=>rw[hw] at h;exact h.elim
    | some c =>
      rw[hw] at h
      obtain⟨ht,hf⟩:=h
      cases c with
      | false =>
        obtain⟨r,E',S',h1,h2⟩:=VL.trace (hf rfl) hlo
        exact⟨⟨false, .d (.v undef),fun x=>x,fun x=>x,fun x=>x⟩::r,E',S',⟨⟨hd,hw,nofun,fun _=>rfl⟩,h1⟩,h2⟩
      | true =>
        have ht:=ht rfl
        split at ht
        · rename_i g xs hc
          cases ha:argsS E xs with
          | none=>rw[ha] at ht;exact ht.elim
          | some ss =>
            rw[ha] at ht
            rcases ht with ⟨ds,r0,hds,hp,hk⟩ | ⟨hl,r0,S1,hp,hk⟩ | ⟨hl,r0,fB,m,hp,hk⟩
            case inr.inr =>
              obtain⟨r,E',S',h1,h2⟩:=VL.trace hk hlo
              exact⟨⟨true,r0,fB,fun T=>T,fun _=>m⟩::r,E',S',⟨⟨hd,hw,fun _=>.own hl hc ha hp,nofun⟩,h1⟩,h2⟩
            · obtain⟨r,E',S',h1,h2⟩:=VL.trace hk hlo
              exact⟨⟨true, .d r0,fun x=>x,fun x=>x,fun x=>x⟩::r,E',S',⟨⟨hd,hw,fun _=>.call hc ha hds hp,nofun⟩,h1⟩,h2⟩
            · obtain⟨r,E',S',h1,h2⟩:=VL.trace hk hlo
              have e:S.out ⟨true,r0,fun _=>S1.B,fun _=>S1.T,fun _=>S1.nx⟩=S1:=by
                have k:=hp.2.1
                unfold St.out
                rw[← k.n, ← k.md, ← k.gl]
              exact⟨⟨true,r0,fun _=>S1.B,fun _=>S1.T,fun _=>S1.nx⟩::r,E',S',⟨⟨hd,hw,fun _=>.loud hl hc ha hp,nofun⟩,by rw[e];exact h1⟩,h2⟩
        · rename_i x name xs hc
          unfold RecK at ht
          split at ht
          · rename_i t y hx
            cases ha:argsS E xs with
            | none=>rw[ha] at ht;exact ht.elim
            | some ss =>
              rw[ha] at ht
              obtain⟨g,ds,r0,hm,hds,hp,hk⟩:=ht
              obtain⟨r,E',S',h1,h2⟩:=VL.trace hk hlo
              exact⟨⟨true, .d r0,fun x=>x,fun x=>x,fun x=>x⟩::r,E',S',⟨⟨hd,hw,fun _=>.inv hc hx ha hm hds hp,nofun⟩,h1⟩,h2⟩
          · exact ht.elim
        · rename_i x xs hc
          unfold FnK at ht
          cases hx:evalO E x with
          | none=>rw[hx] at ht;exact ht.elim
          | some s =>
            rw[hx] at ht
            simp only[Option.bind_some] at ht
            cases hf:fnS s with
            | none=>rw[hf] at ht;exact ht.elim
            | some gfc =>
              obtain⟨g,fs,cs⟩:=gfc
              rw[hf] at ht
              simp only at ht
              cases ha:argsS E xs with
              | none=>rw[ha] at ht;exact ht.elim
              | some ss =>
                rw[ha] at ht
                rcases ht with ⟨ds,r0,hds,hp,hk⟩ | ⟨hl,_⟩ | ⟨hl,_⟩
                case inr.inr=>exact hl.elim
                · obtain⟨r,E',S',h1,h2⟩:=VL.trace hk hlo
                  exact⟨⟨true, .d r0,fun x=>x,fun x=>x,fun x=>x⟩::r,E',S',⟨⟨hd,hw,fun _=>.dyn hc hx hf ha hds hp,nofun⟩,h1⟩,h2⟩
                · have hl:lo ops.size=true:=hl
                  rw[hlo] at hl;cases hl
        · rename_i hc
          have ht:=ht.resolve_right (fun q=>by rw[hlo] at q;cases q.1)
          cases he:evalOp P E S (base+i) o with
          | none=>rw[he] at ht;exact ht.elim
          | some se =>
            obtain⟨s,e⟩:=se
            rw[he] at ht
            obtain⟨r,E',S',h1,h2⟩:=VL.trace ht hlo
            exact⟨⟨true,s,effB (base+i) e,effT e,fun x=>x⟩::r,E',S',⟨⟨hd,hw,fun _=>.op hc he,nofun⟩,by rw[app_out];exact h1⟩,h2⟩
theorem Tr.sound {lo:Nat→Bool}{ops:Array Oper}{base:Nat}{Q:Env→St→Prop}:∀ {l:List Oper}{r:List Out}{i:Nat}{E:Env}{S:St}{E':Env}{S':St},Tr lo P ops base i l E S r E' S'→Q E' S'→LS P ops base i l E S Q
  | [],[],i,E,S,E',S',h,hq=>by obtain⟨rfl,rfl⟩:=h;exact LS.nil hq
  | o::l,ot::r,i,E,S,E',S',h,hq=>by
    obtain⟨⟨hd,hw,ht,hf⟩,h2⟩:=h
    have hd:=dstOk_ok hd
    cases hb:ot.w with
    | false =>
      have e:=hf hb
      subst e
      exact LS.skip hw hd (Tr.sound h2 hq)
    | true =>
      rw[hb] at hw
      exact LS.cons hw hd (ht hb).opS (Tr.sound h2 hq)
  | [],_::_,_,_,_,_,_,h,_=>h.elim
  | _::_,[],_,_,_,_,_,h,_=>h.elim
theorem VL.sound {lo:Nat→Bool}{ops:Array Oper}{base:Nat}:∀ {l:List Oper}{i:Nat}{E:Env}{S:St}{Q:Env→St→Prop},VL lo P ops base i l E S Q→LS P ops base i l E S Q
  | [],i,E,S,Q,h=>LS.nil h
  | o::l,i,E,S,Q,h=>by
    unfold VL at h
    obtain⟨hd,h⟩:=h
    have hd:=dstOk_ok hd
    cases hw:wantS ops E o with
    | none=>rw[hw] at h;exact h.elim
    | some c =>
      rw[hw] at h
      obtain⟨ht,hf⟩:=h
      cases c with
      | false=>exact LS.skip hw hd (VL.sound (hf rfl))
      | true =>
        have ht:=ht rfl
        split at ht
        · rename_i g xs hc
          obtain⟨ts,ho⟩:=callOf_fn hc
          cases ha:argsS E xs with
          | none=>rw[ha] at ht;exact ht.elim
          | some ss =>
            rw[ha] at ht
            rcases ht with ⟨ds,r0,hds,hp,hk⟩ | ⟨hl,r0,S1,hp,hk⟩ | ⟨hl,r0,fB,m,hp,hk⟩
            case inr.inr=>exact LS.cons hw hd (OpS.lcall ho ha (hp.call S rfl rfl rfl rfl rfl fun _ _=>rfl)) (VL.sound hk)
            · exact LS.cons hw hd (OpS.call ho ha hds hp) (VL.sound hk)
            · exact LS.cons hw hd (OpS.lcall ho ha hp) (VL.sound hk)
        · rename_i x name xs hc
          obtain⟨ts,ho⟩:=callOf_inv hc
          unfold RecK at ht
          split at ht
          · rename_i t y hx
            cases ha:argsS E xs with
            | none=>rw[ha] at ht;exact ht.elim
            | some ss =>
              rw[ha] at ht
              obtain⟨g,ds,r0,hm,hds,hp,hk⟩:=ht
              exact LS.cons hw hd (OpS.invoke ho hx hm ha hds hp) (VL.sound hk)
          · exact ht.elim
        · rename_i x xs hc
          obtain⟨ts,ho⟩:=callOf_dyn hc
          unfold FnK at ht
          cases hx:evalO E x with
          | none=>rw[hx] at ht;exact ht.elim
          | some s =>
            rw[hx] at ht
            simp only[Option.bind_some] at ht
            cases hf:fnS s with
            | none=>rw[hf] at ht;exact ht.elim
            | some gfc =>
              obtain⟨g,fs,cs⟩:=gfc
              rw[hf] at ht
              simp only at ht
              cases ha:argsS E xs with
              | none=>rw[ha] at ht;exact ht.elim
              | some ss =>
                rw[ha] at ht
                rcases ht with ⟨ds,r0,hds,hp,hk⟩ | ⟨hl,r0,S1,hp,hk⟩ | ⟨hl,_⟩
                case inr.inr=>exact hl.elim
                · exact LS.cons hw hd (OpS.dyn ho hx hf ha hds hp) (VL.sound hk)
                · exact LS.cons hw hd (OpS.dynL ho hx hf ha hp) (VL.sound hk)
        · rename_i hc
          rcases ht with ht | ⟨_,ht⟩
          · cases he:evalOp P E S (base+i) o with
            | none=>rw[he] at ht;exact ht.elim
            | some se =>
              obtain⟨s,e⟩:=se
              rw[he] at ht
              exact LS.cons hw hd (OpS.eval he) (VL.sound ht)
          · exact LS.consX hw hd (OpX.eval ht) (fun s e h=>VL.sound h)
end
end Go.Sh
namespace Go.Sh
open Go.RowKit (Below)
section
variable {P:Program}{E E':Env}{S S':St}
theorem bndS_congr {d:Nat}{x:Option Operand} (h:∀ y,x=some y→evalO E' y=evalO E y):bndS E' d x=bndS E d x:=by
  cases x with
  | none=>rfl
  | some y=>simp only[bndS,h y rfl]
theorem partsS_congr:∀ {ps:List (Nat×Operand)},(∀ p∈ps,evalO E' p.2=evalO E p.2)→partsS E' ps=partsS E ps
  | [],_=>rfl
  | (i,x)::r,h=>by
    simp only[partsS,h (i,x) (List.mem_cons_self ..),partsS_congr fun p hp=>h p (List.mem_cons_of_mem _ hp)]
theorem partsD_congr:∀ {ps:List (Nat×Operand)},(∀ p∈ps,evalO E' p.2=evalO E p.2)→partsD E' ps=partsD E ps
  | [],_=>rfl
  | (i,x)::r,h=>by
    simp only[partsD,h (i,x) (List.mem_cons_self ..),partsD_congr fun p hp=>h p (List.mem_cons_of_mem _ hp)]
theorem argsS_congr:∀ {xs:List Operand},(∀ x∈xs,evalO E' x=evalO E x)→argsS E' xs=argsS E xs
  | [],_=>rfl
  | x::r,h=>by
    simp only[argsS,h x (List.mem_cons_self ..),argsS_congr fun p hp=>h p (List.mem_cons_of_mem _ hp)]
theorem refOf_op {r:Option SV}{b:Nat} (h:refOf r=some b):∃ off,r=some (.op b off):=by
  unfold refOf at h
  split at h
  · cases h;exact⟨_,rfl⟩
  · cases h
set_option maxHeartbeats 1600000 in
theorem evalOp_congr {id:Nat}{o:Oper} (hE:∀ x∈o.op.operands,evalO E' x=evalO E x) (hB:(memOf o.op).rB=true→S'.B=S.B∨(∃ b,addrB E o.op=some b∧S'.B b=S.B b)∨(isLoad o.op=true∧addrB E o.op=none)) (hT:(memOf o.op).rT=true→S'.T=S.T) (hmd:S'.md=S.md) (hgl:S'.gl=S.gl):evalOp P E' S' id o=evalOp P E S id o:=by
  obtain⟨dst,op,type,pos,after,guard⟩:=o
  cases op<;>simp only[Op.operands] at hE<;>simp only[evalOp]
  case build t ps=>rw[partsS_congr (E:=E) (E':=E') fun p hp=>hE p.2 (by simp;exact⟨p.1,by simpa using hp⟩)]
  case buildSlice t n ps=>rw[partsD_congr (E:=E) (E':=E') fun p hp=>hE p.2 (by simp;exact⟨p.1,by simpa using hp⟩),partsS_congr (E:=E) (E':=E') fun p hp=>hE p.2 (by simp;exact⟨p.1,by simpa using hp⟩),hmd]
  case makeFunc fn first caps =>
    have h1:argsS E' first.toList=argsS E first.toList:=argsS_congr fun x hx=>hE x (Array.mem_append_left _ (by simpa using hx))
    have h2:argsS E' caps.toList=argsS E caps.toList:=argsS_congr fun x hx=>hE x (Array.mem_append_right _ (by simpa using hx))
    rw[h1,h2]
  case load t x =>
    rw[hE x (by simp)]
    rcases hB rfl with h | ⟨b,h1,h2⟩ | ⟨_,h1⟩
    · rw[h]
    · obtain⟨off,h3⟩:=refOf_op (show refOf (evalO E x)=some b from h1)
      rw[h3];simp only[h2]
    · have h1:refOf (evalO E x)=none:=h1
      generalize evalO E x=z at h1
      split
      · rfl
      · cases h1
      · rfl
  case store t x y =>
    rw[hE x (by simp),hE y (by simp)]
    rcases hB rfl with h | ⟨b,h1,h2⟩ | ⟨h1,_⟩
    rotate_right
    · cases h1
    · rw[h]
    · obtain⟨off,h3⟩:=refOf_op (show refOf (evalO E x)=some b from h1)
      rw[h3];cases evalO E y<;>cases szOf P t<;>first | rfl | simp only[h2]
  case slice t x lo hi mx =>
    cases mx with
    | some m=>rfl
    | none =>
      simp only
      have h1:=hE x (by simp)
      have h2:∀ d,bndS E' d lo=bndS E d lo:=fun d=>bndS_congr fun y hy=>hE y (by simp[hy])
      have h3:∀ d,bndS E' d hi=bndS E d hi:=fun d=>bndS_congr fun y hy=>hE y (by simp[hy])
      rw[h1]
      have:∀ s,evalSlice P E' S' t s lo hi=evalSlice P E S t s lo hi:=fun s=>by
        unfold evalSlice
        simp only[h2,h3]
      simp only[this]
  case call c =>
    obtain⟨callee,args,tys⟩:=c
    simp only
    have ha:∀ x∈args.toList,evalO E' x=evalO E x:=fun x hx=>hE x (by simp only[Call.operands];exact Array.mem_append_right _ (by simpa using hx))
    split
    · rename_i x T h1 h2
      rw[ha x (by rw[h1];simp)]
    · rename_i x y T T' h1 h2
      rw[ha x (by rw[h1];simp),ha y (by rw[h1];simp)]
      have:∀ d s t,evalAppend P S' id d T s t=evalAppend P S id d T s t:=fun d s t=>by
        unfold evalAppend
        have hB':S'.B=S.B:=by
          rcases hB rfl with h | ⟨b,h1,_⟩ | ⟨h1,_⟩
          · exact h
          · cases h1
          · cases h1
        simp only[hmd,hT rfl,hB']
      simp only[this]
    · rename_i b x y T T' hno h1 h2
      rw[ha x (by rw[h1];simp),ha y (by rw[h1];simp)]
    · rfl
  case makeSlice t x y =>
    rw[hE x (by simp),hE y (by simp)]
    have:∀ d s t',evalMake P S' id d t s t'=evalMake P S id d t s t':=fun d s t'=>by
      unfold evalMake
      simp only[hmd]
    simp only[this]
  case binOp op T x y T2 =>
    have h1:=hE x (by simp)
    have h2:=hE y (by simp)
    cases y<;>simp only[h1,h2,hgl]
  all_goals (first | rfl | (simp only[hE _ (by simp)];done)|(simp_all;done))
structure EffOk (m:Mem) (id:Nat) (e:Eff):Prop where
  new:∀ cs,e=.new cs→m.wB=true
  set:∀ b cs,e=.set b cs→m.wB=true∧m.own=false
  tip:∀ i k sz,e=.tip i k sz→m.wT=true∧(m.own=true→i=id)
  mov:∀ b cs,e=.mov b cs→m.wB=true∧m.own=false
theorem EffOk.no (m:Mem) (id:Nat):EffOk m id .no:=⟨nofun,nofun,nofun,nofun⟩
theorem eqlE_no {gl:Nat→Option D}{op:BinOp}{T:TypeId}{s t s':SV}{e:Eff} (h:eqlE P gl op T s t=some (s',e)):e=.no:=by
  unfold eqlE at h
  split at h
  · obtain⟨_,h5⟩:=@onlyIf_ok _ _ (Classical.propDecidable _) _ _ h
    simp only[Prod.mk.injEq] at h5;exact h5.2
  · cases h
theorem rowE_no {md:List Nat}{dst:Option Nat}{n:Nat}{r:Option (List D)}{s:SV}{e:Eff} (h:r.bind (rowE md dst n)=some (s,e)):e=.no:=by
  simp only[Option.bind_eq_some_iff] at h
  obtain⟨cs,_,h⟩:=h
  unfold rowE at h
  split at h
  · cases h
  · simp only[Option.some.injEq,Prod.mk.injEq] at h;exact h.2.symm
theorem rowEL_no {md:List Nat}{dst:Option Nat}{n:Nat}{r:Option (List SV×Nat)}{s:SV}{e:Eff} (h:r.bind (rowEL md dst n)=some (s,e)):e=.no:=by
  simp only[Option.bind_eq_some_iff] at h
  obtain⟨cs,_,h⟩:=h
  unfold rowEL at h
  split at h
  · cases h
  · simp only[Option.some.injEq,Prod.mk.injEq] at h;exact h.2.symm
theorem lookE_no {T:TypeId}{ok:Bool}{x y:Option SV}{s:SV}{e:Eff} (h:lookE P T ok x y=some (s,e)):e=.no:=by
  unfold lookE at h
  split at h
  · simp only[Option.map_eq_some_iff,Prod.mk.injEq] at h
    obtain⟨_,_,_,rfl⟩:=h;rfl
  · cases h
theorem map_no {r:Option SV}{s:SV}{e:Eff} (h:r.map (fun s=>(s,Eff.no))=some (s,e)):e=.no:=by
  simp only[Option.map_eq_some_iff,Prod.mk.injEq] at h
  obtain⟨_,_,_,rfl⟩:=h;rfl
set_option maxHeartbeats 1600000 in
theorem evalOp_eff {id:Nat}{o:Oper}{s:SV}{e:Eff} (h:evalOp P E S id o=some (s,e)):EffOk (memOf o.op) id e:=by
  obtain⟨dst,op,type,pos,after,guard⟩:=o
  cases op<;>simp only[evalOp] at h
  case alloc T =>
    simp only[Option.map_eq_some_iff,Prod.mk.injEq] at h;obtain⟨cs,h1,rfl,rfl⟩:=h
    exact⟨fun _ _=>rfl,nofun,nofun,nofun⟩
  case box T x =>
    split at h
    · split at h
      · simp only[Option.some.injEq,Prod.mk.injEq] at h;obtain⟨rfl,rfl⟩:=h
        exact⟨fun _ _=>rfl,nofun,nofun,nofun⟩
      · cases h
    · cases h
  case store T x y =>
    split at h
    · split at h
      · obtain⟨_,h5⟩:=onlyIf_ok h
        simp only[Prod.mk.injEq] at h5;obtain⟨rfl,rfl⟩:=h5
        exact⟨nofun,fun _ _ _=>⟨rfl,rfl⟩,nofun,nofun⟩
      · cases h
    · cases h
  case makeSlice T x y =>
    split at h
    · unfold evalMake at h
      split at h
      · split at h
        · obtain⟨_,h5⟩:=onlyIf_ok h
          simp only[Prod.mk.injEq] at h5;obtain⟨rfl,rfl⟩:=h5
          exact⟨nofun,nofun,fun i k sz e=>by (cases e;exact⟨rfl,fun _=>rfl⟩),nofun⟩
        split at h
        · obtain⟨_,h5⟩:=onlyIf_ok h
          simp only[Prod.mk.injEq] at h5;obtain⟨rfl,rfl⟩:=h5
          exact⟨fun _ _=>rfl,nofun,nofun,nofun⟩
        · obtain⟨_,h5⟩:=onlyIf_ok h
          simp only[Prod.mk.injEq] at h5;obtain⟨rfl,rfl⟩:=h5
          exact⟨fun _ _=>rfl,nofun,nofun,nofun⟩
      · cases h
    · cases h
  case convert T U x =>
    split at h
    · unfold evalConv at h
      split at h
      · split at h
        · simp only[Option.some.injEq,Prod.mk.injEq] at h;obtain⟨rfl,rfl⟩:=h;exact EffOk.no _ _
        · cases h
      · split at h
        · simp only[Option.some.injEq,Prod.mk.injEq] at h;obtain⟨rfl,rfl⟩:=h
          exact EffOk.no _ _
        · cases h
      · split at h
        · split at h
          · obtain⟨_,h5⟩:=onlyIf_ok h
            simp only[Prod.mk.injEq] at h5;obtain⟨rfl,rfl⟩:=h5;exact EffOk.no _ _
          · cases h
        · cases h
    · cases h
  case call c =>
    obtain⟨callee,args,tys⟩:=c
    simp only at h
    split at h
    · split at h
      · rw[map_no h];exact EffOk.no _ _
      · cases h
    · split at h
      · split at h
        · unfold evalAppend at h
          split at h
          · split at h
            · split at h
              · simp only[Option.some.injEq,Prod.mk.injEq] at h;obtain⟨rfl,rfl⟩:=h;exact EffOk.no _ _
              · split at h
                · obtain⟨_,h5⟩:=onlyIf_ok h
                  simp only[Prod.mk.injEq] at h5;obtain⟨rfl,rfl⟩:=h5
                  exact⟨fun _ _=>rfl,nofun,nofun,nofun⟩
                split at h
                · obtain⟨_,h5⟩:=onlyIf_ok h
                  simp only[Prod.mk.injEq] at h5;obtain⟨rfl,rfl⟩:=h5
                  exact⟨fun _ _=>rfl,nofun,nofun,nofun⟩
                · obtain⟨_,h5⟩:=onlyIf_ok h
                  simp only[Prod.mk.injEq] at h5;obtain⟨rfl,rfl⟩:=h5
                  exact⟨nofun,nofun,fun i k sz e=>⟨rfl,nofun⟩,nofun⟩
            · obtain⟨_,h5⟩:=onlyIf_ok h
              simp only[Prod.mk.injEq] at h5;obtain⟨rfl,rfl⟩:=h5
              exact⟨nofun,nofun,fun i k sz e=>⟨rfl,nofun⟩,nofun⟩
            · split at h
              · obtain⟨_,h5⟩:=onlyIf_ok h
                simp only[Prod.mk.injEq] at h5;obtain⟨rfl,rfl⟩:=h5
                exact⟨nofun,nofun,nofun,fun b cs e=>⟨rfl,rfl⟩⟩
              · cases h
            · cases h
          · unfold appV at h
            split at h
            · split at h
              · obtain⟨_,h5⟩:=onlyIf_ok h
                simp only[Prod.mk.injEq] at h5;obtain⟨rfl,rfl⟩:=h5
                exact⟨fun _ _=>rfl,nofun,nofun,nofun⟩
              · split at h
                · obtain⟨_,h5⟩:=onlyIf_ok h
                  simp only[Prod.mk.injEq] at h5;obtain⟨rfl,rfl⟩:=h5
                  exact⟨nofun,nofun,nofun,fun b cs e=>⟨rfl,rfl⟩⟩
                · cases h
              · cases h
            · cases h
          · cases h
        · cases h
      · cases h
    · split at h
      · rw[map_no h];exact EffOk.no _ _
      · cases h
    · cases h
  case slice T x lo hi mx =>
    cases mx with
    | some m=>cases h
    | none =>
      simp only at h
      split at h
      · rw[map_no h];exact EffOk.no _ _
      · cases h
  all_goals
    have hno:e=.no:=by
      repeat' split at h
      all_goals first
        | exact map_no h
        | exact eqlE_no h
        | exact rowE_no h
        | exact rowEL_no h
        | exact lookE_no h
        | (simp only[Option.some.injEq,Prod.mk.injEq] at h;exact h.2.symm)
        | (simp only[Option.map_eq_some_iff,Prod.mk.injEq] at h;obtain⟨_,_,_,h5⟩:=h;exact h5.symm)
        | (obtain⟨_,h5⟩:=onlyIf_ok h;simp only[Prod.mk.injEq] at h5;exact h5.2)
        | cases h
    rw[hno];exact EffOk.no _ _
theorem load_has {id:Nat}{o:Oper}{s:SV}{e:Eff}{b:Nat} (h:evalOp P E S id o=some (s,e)) (hl:isLoad o.op=true) (hb:addrB E o.op=some b):S.B b≠none:=by
  obtain⟨dst,op,type,pos,after,guard⟩:=o
  cases op<;>try (cases hl;done)
  case load t x =>
    obtain⟨off,h3⟩:=refOf_op (show refOf (evalO E x)=some b from hb)
    simp only[evalOp,h3] at h
    intro hn
    rw[hn] at h
    simp at h
theorem set_has {id:Nat}{o:Oper}{s:SV}{b:Nat}{cs:List SV} (h:evalOp P E S id o=some (s, .set b cs)):S.B b≠none:=by
  have hk:=(evalOp_eff h).set b cs rfl
  obtain⟨dst,op,type,pos,after,guard⟩:=o
  cases op<;>try (cases hk.1;done)
  case alloc T=>cases hk.2
  case box T x=>cases hk.2
  case store T x y =>
    simp only[evalOp] at h
    split at h
    · split at h
      · rename_i cs' hB
        obtain⟨_,h5⟩:=onlyIf_ok h
        simp only[Prod.mk.injEq,Eff.set.injEq] at h5;obtain⟨_,rfl,_⟩:=h5
        rw[hB];simp
      · cases h
    · cases h
  case makeSlice T x y=>cases hk.2
  case call c =>
    obtain⟨callee,args,tys⟩:=c
    simp only[evalOp] at h
    split at h
    · split at h
      · have:=map_no h;cases this
      · cases h
    · split at h
      · split at h
        · unfold evalAppend at h
          split at h
          · split at h
            · split at h
              · simp only[Option.some.injEq,Prod.mk.injEq] at h;cases h.2
              · split at h
                · obtain⟨_,h5⟩:=onlyIf_ok h
                  simp only[Prod.mk.injEq] at h5;cases h5.2
                split at h
                · obtain⟨_,h5⟩:=onlyIf_ok h
                  simp only[Prod.mk.injEq] at h5;cases h5.2
                · obtain⟨_,h5⟩:=onlyIf_ok h
                  simp only[Prod.mk.injEq] at h5;cases h5.2
            · obtain⟨_,h5⟩:=onlyIf_ok h
              simp only[Prod.mk.injEq] at h5;cases h5.2
            · split at h
              · obtain⟨_,h5⟩:=onlyIf_ok h
                simp only[Prod.mk.injEq] at h5;cases h5.2
              · cases h
            · cases h
          · unfold appV at h
            split at h
            · split at h
              · obtain⟨_,h5⟩:=onlyIf_ok h
                simp only[Prod.mk.injEq] at h5;cases h5.2
              · split at h
                · obtain⟨_,h5⟩:=onlyIf_ok h
                  simp only[Prod.mk.injEq] at h5;cases h5.2
                · cases h
              · cases h
            · cases h
          · cases h
        · cases h
      · cases h
    · split at h
      · have:=map_no h;cases this
      · cases h
    · cases h
theorem wantS_congr {ops:Array Oper}{o:Oper} (h:∀ g w d,o.guard=some (g,w)→(ops[g]?).bind (·.dst)=some d→evalO E' (.tmp d)=evalO E (.tmp d)):wantS ops E' o=wantS ops E o:=by
  unfold wantS
  split
  · rfl
  · rename_i j want hg
    split
    · rename_i d hd
      rw[h j want d hg hd]
    · rfl
end
end Go.Sh
namespace Go.Sh
open Go.RowKit (Below)
section
variable {P:Program}{sp:Spl}{ol:Old}
theorem looksAt_operand {ops:Array Oper}{o:Oper}{t:Nat} (h:Operand.tmp t∈o.op.operands):t∈looksAt ops o :=
  List.mem_append_left _ (List.mem_filterMap.2 ⟨.tmp t,by simpa using h,rfl⟩)
theorem looksAt_guard {ops:Array Oper}{o:Oper}{g:Nat}{w:Bool}{d:Nat} (h:o.guard=some (g,w)) (hd:(ops[g]?).bind (·.dst)=some d):d∈looksAt ops o:=by
  unfold looksAt
  rw[h]
  exact List.mem_append_right _ (by simp[hd])
def SpAt (ops:Array Oper) (x:Nat×Nat):Prop:=∃ (h:x.1<ops.size) (t:Nat),addrX (ops[x.1]).op=some (.tmp t)∧t<globalsAt∧rootOf ops x.1 t=some x.2
theorem spAt_ok {ops:Array Oper}{x:Nat×Nat} (h:spAt ops x=true):SpAt ops x:=by
  unfold spAt at h
  split at h
  · rename_i o ho
    obtain⟨hlt,rfl⟩:=Array.getElem?_eq_some_iff.1 ho
    split at h
    · rename_i t ht
      simp only[Bool.and_eq_true,decide_eq_true_eq,beq_iff_eq] at h
      exact⟨hlt,t,ht,h.1,h.2⟩
    · cases h
  · cases h
def SpHas (sp:Spl) (i j:Nat):Prop:=∃ p∈sp,p.1.1=i∧p.2.1=j
def OlHas (ol:Old) (i j:Nat):Prop:=∃ p∈ol,(p.1.1=i∧p.2=j)∨(p.1.1=j∧p.2=i)
def NewAt (ops:Array Oper) (j:Nat):Prop:=∃ h:j<ops.size,isNew (ops[j]).op=true
def EarHas (ops:Array Oper) (i j:Nat):Prop:=j<i∧NewAt ops i∧(∃ h:j<ops.size,isLoad (ops[j]).op=true)∧∀ q (h:q<ops.size),q<j→isCall (ops[q]).op=false
theorem earOk_ok {ops:Array Oper}{i j:Nat} (hlt:j<i) (h:earOk ops i j=true):EarHas ops i j:=by
  unfold earOk at h
  simp only[Bool.and_eq_true] at h
  obtain⟨⟨h1,h2⟩,h3⟩:=h
  refine⟨hlt,?_,?_,fun q hq hlt=>?_⟩
  · by_cases hi:i<ops.size
    · exact⟨hi,by simpa[hi] using h1⟩
    · simp[hi] at h1
  · by_cases hj:j<ops.size
    · exact⟨hj,by simpa[hj] using h2⟩
    · simp[hj] at h2
  · have:=List.all_eq_true.1 h3 q (List.mem_range.2 hlt)
    simpa[hq] using this
structure DrawOk (P:Program) (ops:Array Oper) (sp:Spl) (ol:Old):Prop where
  mixed:P.follows .mixedOrders=true
  back:∀ i (h:i<ops.size) e,e∈(ops[i]).after.toList→Region.binds .any e=true→e.on<i
  dst:∀ i j (h:i<ops.size) (h':j<ops.size),j<i→∀ d,(ops[i]).dst=some d→(ops[j]).dst≠some d
  pair:∀ i j (h:i<ops.size) (h':j<ops.size),j<i→cmp ops.toList i j=true ∨
    ((∀ d,(ops[j]).dst=some d→d∉looksAt ops ops[i])∧(∀ d,(ops[i]).dst=some d→d∉looksAt ops ops[j])∧(clash (memOf (ops[i]).op) (memOf (ops[j]).op)=false∨SpHas sp i j∨OlHas ol i j∨EarHas ops i j))
  spOk:∀ p∈sp,SpAt ops p.1∧SpAt ops p.2
  olOk:∀ p∈ol,SpAt ops p.1∧NewAt ops p.2
theorem drawOk_ok {ops:Array Oper} (h:drawOk P ops sp ol=true):DrawOk P ops sp ol:=by
  unfold drawOk at h
  simp only[Bool.and_eq_true] at h
  obtain⟨⟨⟨⟨⟨h1,h2⟩,h3⟩,h4⟩,h5⟩,h6⟩:=h
  have pr:∀ i j (h:i<ops.size) (h':j<ops.size),j<i→pairOk ops ops.toList sp ol i j=true:=fun i j hi hj hlt =>
    List.all_eq_true.1 (List.all_eq_true.1 h4 i (List.mem_range.2 hi)) j (List.mem_range.2 hlt)
  have ge:∀ i (h:i<ops.size),ops.toList[i]?=some ops[i]:=fun i hi=>by simp[hi]
  refine⟨h1,fun i hi e he hb=>?_,fun i j hi hj hlt d hd hd'=>?_,fun i j hi hj hlt=>?_,fun p hp=>?_,fun p hp=>?_⟩
  · have:=List.all_eq_true.1 h3 i (List.mem_range.2 hi)
    simp only[Array.getElem?_eq_getElem hi,Option.map_some,Option.getD_some] at this
    have:=List.all_eq_true.1 this e he
    simp only[hb,Bool.not_true,Bool.false_or] at this
    simpa using this
  · have:=pr i j hi hj hlt
    simp only[pairOk,ge i hi,ge j hj,Bool.and_eq_true] at this
    have:=this.1
    simp[hd,hd'] at this
  · have:=pr i j hi hj hlt
    simp only[pairOk,ge i hi,ge j hj,Bool.and_eq_true,Bool.or_eq_true] at this
    refine this.2.imp id (fun h=>?_)
    obtain⟨⟨a,b⟩,c⟩:=h
    refine⟨fun d hd hm=>?_,fun d hd hm=>?_,?_⟩
    · simp[hd,hm] at a
    · simp[hd,hm] at b
    · rcases c with ((c | c) | c) | c
      · exact .inl (by simpa using c)
      · obtain⟨p,hp,hc⟩:=List.any_eq_true.1 c
        simp only[Bool.and_eq_true,beq_iff_eq] at hc
        exact .inr (.inl ⟨p,hp,hc⟩)
      · obtain⟨p,hp,hc⟩:=List.any_eq_true.1 c
        simp only[Bool.or_eq_true,Bool.and_eq_true,beq_iff_eq] at hc
        exact .inr (.inr (.inl ⟨p,hp,hc⟩))
      · exact .inr (.inr (.inr (earOk_ok hlt c)))
  · have:=List.all_eq_true.1 h5 p hp
    simp only[Bool.and_eq_true] at this
    exact⟨spAt_ok this.1,spAt_ok this.2⟩
  · have:=List.all_eq_true.1 h6 p hp
    simp only[Bool.and_eq_true] at this
    refine⟨spAt_ok this.1,?_⟩
    have h7:=this.2
    by_cases hlt:p.2<ops.size
    · exact⟨hlt,by simpa[hlt] using h7⟩
    · simp[hlt] at h7
theorem anc_lt {ops:Array Oper} (hok:DrawOk P ops sp ol) {i j:Nat} (hi:i<ops.size) (h:anc ops.toList i j=true):j<i:=by
  induction i using Nat.strongRecOn with
  | _ i ih =>
    obtain⟨e,h1,h2,h3⟩:=anc_step (by simpa using hi) h
    have hlt:=hok.back i hi e (by simpa using h1) h2
    rcases h3 with h3 | ⟨_,h3⟩
    · omega
    · have:=ih e.on hlt (by omega) h3
      omega
section
variable {ops:Array Oper}{E0:Env}{S0:St}{base:Nat}{out:Nat→Out}
def stE (ops:Array Oper) (out:Nat→Out) (j:Nat) (E:Env):Env:=match ops[j]? with | some o=>E.put o.dst (out j).s | none=>E
def envL (ops:Array Oper) (out:Nat→Out) (E0:Env) (L:Nat→Bool) (n:Nat):Env:=foldF (stE ops out) L n E0
def stL (out:Nat→Out) (S0:St) (L:Nat→Bool) (n:Nat):St:={ S0 with B:=foldF (fun j=>(out j).fB) L n S0.B,T:=foldF (fun j=>(out j).fT) L n S0.T,nx:=foldF (fun j=>(out j).fx) L n S0.nx }
abbrev allL:Nat→Bool:=fun _=>true
theorem foldF_lt {X:Type}{f:Nat→X→X}{k:Nat}:∀ {n:Nat}{x:X},k≤n→foldF f (fun j=>decide (j<k)) n x=foldF f allL k x
  | 0, x, h => by have : k = 0 := by omega
                  subst this;rfl
  | n+1,x,h=>by
    by_cases e:k=n+1
    · subst e
      exact foldF_congr fun j hj=>.inr (by simp[hj])
    · simp only[foldF]
      rw[if_neg (by simp;omega)]
      exact foldF_lt (by omega)
theorem Tr.at {lo:Nat→Bool}:∀ {l:List Oper}{r:List Out}{i:Nat}{E:Env}{S:St}{E':Env}{S':St},Tr lo P ops base i l E S r E' S'→(∀ k,k<l.length→ops[i+k]?=l[k]?)→(∀ k,k<l.length→r[k]?=some (out (i+k))) →
    E=envL ops out E0 allL i→S=stL out S0 allL i→(∀ k (h:k<l.length),Step1 (loAt lo ops base (i+k) (envL ops out E0 allL (i+k))) P ops (base+(i+k)) l[k] (envL ops out E0 allL (i+k)) (stL out S0 allL (i+k)) (out (i+k)))∧E'=envL ops out E0 allL (i+l.length)∧S'=stL out S0 allL (i+l.length)
  | [],[],i,E,S,E',S',h,_,_,hE,hS=>by obtain⟨rfl,rfl⟩:=h;exact⟨fun k hk=>by simp at hk,hE,hS⟩
  | o::l,ot::r,i,E,S,E',S',h,ho,hr,hE,hS=>by
    obtain⟨h1,h2⟩:=h
    have e0:ops[i]?=some o:=by simpa using ho 0 (by simp)
    have e1:ot=out i:=by simpa using hr 0 (by simp)
    have eE:E.put o.dst ot.s=envL ops out E0 allL (i+1):=by
      unfold envL
      simp only[foldF,if_true,stE,e0]
      rw[hE,e1];rfl
    have eS:S.out ot=stL out S0 allL (i+1):=by
      rw[hS,e1];rfl
    obtain⟨a,b,c⟩:=Tr.at h2 (fun k hk=>by have:=ho (k+1) (by simpa using hk);simpa[Nat.add_assoc,Nat.add_comm 1] using this) (fun k hk=>by have:=hr (k+1) (by simpa using hk);simpa[Nat.add_assoc,Nat.add_comm 1] using this) eE eS
    refine⟨fun k hk=>?_,?_,?_⟩
    · cases k with
      | zero =>
        simp only[Nat.add_zero,List.getElem_cons_zero]
        rw[← hE, ← hS, ← e1];exact h1
      | succ k =>
        have:=a k (by simpa using hk)
        simpa[Nat.add_assoc,Nat.add_comm 1] using this
    · rw[b];congr 1;simp;omega
    · rw[c];congr 1;simp;omega
  | [],_::_,_,_,_,_,_,h,_,_,_,_=>h.elim
  | _::_,[],_,_,_,_,_,h,_,_,_,_=>h.elim
def wildAt (ops:Array Oper) (j:Nat):Bool:=loudAt ops.toList j || freeAt ops j
theorem drawLo_loud {j:Nat} (hj:j<ops.size):drawLo ops j=loudAt ops.toList j:=if_pos hj
theorem drawLo_free {j:Nat}:drawLo ops (ops.size+1+j)=freeAt ops j:=by
  unfold drawLo
  rw[if_neg (by omega),if_neg (by omega)]
  congr 1;omega
theorem wild_loud {j:Nat}{E:Env}{base:Nat} (hj:j<ops.size) (h:(loAt (drawLo ops) ops base j E).loud=true):loudAt ops.toList j=true∧wildAt ops j=true:=by
  have:loudAt ops.toList j=true:=by rw[← drawLo_loud hj];exact h
  exact⟨this,by unfold wildAt;rw[this];rfl⟩
theorem wild_free {j:Nat}{E:Env}{base:Nat} (h:(loAt (drawLo ops) ops base j E).free):freeAt ops j=true∧OldT (oldOf ops j) base E∧wildAt ops j=true:=by
  have h1:freeAt ops j=true:=by rw[← drawLo_free];exact h.2.1
  exact⟨h1,h.2.2,by unfold wildAt;rw[h1,Bool.or_true]⟩
structure Given (P:Program) (ops:Array Oper) (sp:Spl) (ol:Old) (E0:Env) (S0:St) (base:Nat) (out:Nat→Out):Prop where
  ok:DrawOk P ops sp ol
  step:∀ k (h:k<ops.size),Step1 (loAt (drawLo ops) ops base k (envL ops out E0 allL k)) P ops (base+k) ops[k] (envL ops out E0 allL k) (stL out S0 allL k) (out k)
  few:S0.n≤globalsAt
  sep:SepT sp E0
  old:OldT ol base E0
  fresh:∀ q,q<ops.size→S0.B (base+q)=none
def Shut (ops:Array Oper) (L:Nat→Bool):Prop:=∀ i (h:i<ops.size),L i=true→∀ e∈(ops[i]).after.toList,Region.binds .any e=true→L e.on=true
theorem Shut.anc {L:Nat→Bool} (hs:Shut ops L) {i j:Nat} (hi:i<ops.size) (hL:∀ e∈(ops[i]).after.toList,Region.binds .any e=true→L e.on=true) (h:anc ops.toList i j=true):L j=true:=by
  induction i using Nat.strongRecOn with
  | _ i ih =>
    obtain⟨e,h1,h2,h3⟩:=anc_step (by simpa using hi) h
    have hle:=hL e (by simpa using h1) h2
    rcases h3 with h3 | ⟨hlt,h3⟩
    · rw[← h3];exact hle
    · exact ih e.on hlt (by omega) (hs e.on (by omega) hle) h3
variable {L:Nat→Bool}
theorem cmp_listed (g:DrawOk P ops sp ol) (hs:Shut ops L) {i j:Nat} (hi:i<ops.size) (hj:j<ops.size) (hLi:L i=false) (hp:∀ e∈(ops[i]).after.toList,Region.binds .any e=true→L e.on=true) (hc:cmp ops.toList i j=true∨cmp ops.toList j i=true) (hne:i≠j):L j=decide (j<i):=by
  have hc':anc ops.toList i j=true∨anc ops.toList j i=true:=by
    unfold cmp at hc
    simp only[Bool.or_eq_true] at hc
    rcases hc with h | h
    · exact h
    · exact h.symm
  rcases hc' with h | h
  · have:=anc_lt g hi h
    rw[Shut.anc hs hi hp h];simp[this]
  · have hlt:=anc_lt g hj h
    have:L j=false:=by
      cases hb:L j with
      | false=>rfl
      | true =>
        have:=Shut.anc hs hj (hs j hj hb) h
        rw[hLi] at this;cases this
    rw[this];simp;omega
theorem not_cmp (g:DrawOk P ops sp ol) (hs:Shut ops L) {i j:Nat} (hi:i<ops.size) (hj:j<ops.size) (hLi:L i=false) (hLj:L j=true) (hlt:i<j):cmp ops.toList j i=false∧cmp ops.toList i j=false:=by
  have a:anc ops.toList j i=false:=by
    cases hb:anc ops.toList j i with
    | false=>rfl
    | true =>
      have:=Shut.anc hs hj (hs j hj hLj) hb
      rw[hLi] at this;cases this
  have b:anc ops.toList i j=false:=by
    cases hb:anc ops.toList i j with
    | false=>rfl
    | true =>
      have:=anc_lt g hi hb
      omega
  unfold cmp
  simp[a,b]
theorem stE_at (j k:Nat) (E:Env):stE ops out j E k=if ((ops[j]?).bind (·.dst))=some k then some (out j).s else E k:=by
  unfold stE
  cases ho:ops[j]? with
  | none=>simp
  | some o =>
    obtain⟨dst,op,ty,pos,after,guard⟩:=o
    simp only[Option.bind_some]
    cases dst with
    | none=>simp[Env.put]
    | some d =>
      simp only[Env.put,Option.some.injEq]
      by_cases e:d=k
      · subst e;simp[upd_same]
      · rw[upd_ne _ _ (fun h=>e h.symm),if_neg e]
theorem envL_at (k n:Nat):envL ops out E0 L n k=foldF (fun j x=>if ((ops[j]?).bind (·.dst))=some k then some (out j).s else x) L n (E0 k):=by
  unfold envL
  induction n with
  | zero=>rfl
  | succ n ih =>
    simp only[foldF]
    split
    · rw[stE_at,ih]
    · exact ih
theorem slot_same (g:Given P ops sp ol E0 S0 base out) (hs:Shut ops L) {i:Nat} (hi:i<ops.size) (hLi:L i=false) (hp:∀ e∈(ops[i]).after.toList,Region.binds .any e=true→L e.on=true) {k:Nat} (hk:k∈looksAt ops ops[i]) :
    envL ops out E0 L ops.size k=envL ops out E0 allL i k:=by
  rw[envL_at,envL_at, ← foldF_lt (k:=i) (n:=ops.size) (by omega)]
  refine foldF_congr fun j hj=>?_
  by_cases hd:(ops[j]?).bind (·.dst)=some k
  · refine .inr ?_
    have hd':(ops[j]).dst=some k:=by rw[Array.getElem?_eq_getElem hj] at hd;simpa using hd
    rcases Nat.lt_trichotomy j i with h | h | h
    · rcases g.ok.pair i j hi hj h with hc | ⟨h1,_,_⟩
      · exact cmp_listed g.ok hs hi hj hLi hp (.inl hc) (by omega)
      · exact absurd hk (h1 k hd')
    · subst h;rw[hLi];simp
    · rcases g.ok.pair j i hj hi h with hc | ⟨_,h2,_⟩
      · exact cmp_listed g.ok hs hi hj hLi hp (.inr hc) (by omega)
      · exact absurd hk (h2 k hd')
  · exact .inl fun y=>if_neg hd
theorem glob_same (g:Given P ops sp ol E0 S0 base out) {k:Nat} (hk:globalsAt≤k) (L M:Nat→Bool) (n m:Nat) (hn:n≤ops.size) (hm:m≤ops.size):envL ops out E0 L n k=envL ops out E0 M m k:=by
  have key:∀ (L:Nat→Bool) n,n≤ops.size→envL ops out E0 L n k=E0 k:=by
    intro L n hn
    rw[envL_at]
    induction n with
    | zero=>rfl
    | succ n ih =>
      have hne:¬ ((ops[n]?).bind (·.dst)=some k):=by
        rw[Array.getElem?_eq_getElem (by omega)]
        intro e
        have h1:=dstOk_ok (g.step n (by omega)).1 k (by simpa using e)
        have h2:(stL out S0 allL n).n=S0.n:=rfl
        have:=g.few
        omega
      simp only[foldF,if_neg hne]
      split<;>exact ih (by omega)
  rw[key L n hn,key M m hm]
theorem operand_same (g:Given P ops sp ol E0 S0 base out) (hs:Shut ops L) {i:Nat} (hi:i<ops.size) (hLi:L i=false) (hp:∀ e∈(ops[i]).after.toList,Region.binds .any e=true→L e.on=true) {x:Operand} (hx:x∈(ops[i]).op.operands) :
    evalO (envL ops out E0 L ops.size) x=evalO (envL ops out E0 allL i) x:=by
  cases x with
  | tmp t=>simp only[evalO,slot_same g hs hi hLi hp (looksAt_operand hx)]
  | const c=>rfl
  | func f=>rfl
  | global gl=>exact glob_same g (by omega) _ _ _ _ (Nat.le_refl _) (by omega)
theorem fB_id (g:Given P ops sp ol E0 S0 base out) {j:Nat} (hj:j<ops.size) (h:(memOf (ops[j]).op).wB=false) (hl:wildAt ops j=true→isCall (ops[j]).op=false):∀ B,(out j).fB B=B:=by
  obtain⟨_,hw,ht,hf⟩:=g.step j hj
  intro B
  cases hb:(out j).w with
  | false=>rw[hf hb]
  | true =>
    have:=ht hb
    generalize out j=ot at *
    cases this with
    | op hc he =>
      rename_i s e
      have k:=evalOp_eff he
      cases e with
      | no=>rfl
      | new cs=>have:=k.new cs rfl;rw[h] at this;cases this
      | set b cs=>have:=(k.set b cs rfl).1;rw[h] at this;cases this
      | tip i k sz=>rfl
      | mov b cs=>have:=(k.mov b cs rfl).1;rw[h] at this;cases this
    | call=>rfl
    | inv=>rfl
    | dyn=>rfl
    | loud h1 hc ha hlc =>
      have:=hl (wild_loud hj h1).2
      unfold isCall at this
      rw[hc] at this;cases this
    | own h1 hc ha hlc => 
      have:=hl (wild_free h1).2.2
      unfold isCall at this
      rw[hc] at this;cases this
theorem fT_id (g:Given P ops sp ol E0 S0 base out) {j:Nat} (hj:j<ops.size) (h:(memOf (ops[j]).op).wT=false) (hl:wildAt ops j=true→isCall (ops[j]).op=false):∀ T,(out j).fT T=T:=by
  obtain⟨_,hw,ht,hf⟩:=g.step j hj
  intro T
  cases hb:(out j).w with
  | false=>rw[hf hb]
  | true =>
    have:=ht hb
    generalize out j=ot at *
    cases this with
    | op hc he =>
      rename_i s e
      have k:=evalOp_eff he
      cases e with
      | no=>rfl
      | new cs=>rfl
      | set b cs=>rfl
      | tip i k' sz=>have:=(k.tip i k' sz rfl).1;rw[h] at this;cases this
      | mov b cs=>rfl
    | call=>rfl
    | inv=>rfl
    | dyn=>rfl
    | loud h1 hc ha hlc =>
      have:=hl (wild_loud hj h1).2
      unfold isCall at this
      rw[hc] at this;cases this
    | own h1 hc ha hlc=>rfl
theorem fx_id (g:Given P ops sp ol E0 S0 base out) {j:Nat} (hj:j<ops.size) (hl:wildAt ops j=true→isCall (ops[j]).op=false):∀ x,(out j).fx x=x:=by
  obtain⟨_,hw,ht,hf⟩:=g.step j hj
  intro x
  cases hb:(out j).w with
  | false=>rw[hf hb]
  | true =>
    have:=ht hb
    generalize out j=ot at *
    cases this with
    | op hc he=>rfl
    | call=>rfl
    | inv=>rfl
    | dyn=>rfl
    | loud h1 hc ha hlc =>
      have:=hl (wild_loud hj h1).2
      unfold isCall at this
      rw[hc] at this;cases this
    | own h1 hc ha hlc => 
      have:=hl (wild_free h1).2.2
      unfold isCall at this
      rw[hc] at this;cases this
theorem loud_cmp {i j:Nat} (hl:loudAt ops.toList i=true) (hj:j<ops.size) (hne:j≠i) (h:isCall (ops[j]).op=true∨touches (ops[j]).op=true):cmp ops.toList i j=true:=by
  unfold loudAt at hl
  simp only[Bool.and_eq_true] at hl
  have:=List.all_eq_true.1 hl.2 j (List.mem_range.2 (by simpa using hj))
  simp only[Bool.or_eq_true,beq_iff_eq] at this
  rcases this with (h1 | h1) | h1
  · exact absurd h1 hne
  · exact h1
  · simp[hj] at h1
    rcases h with h | h
    · rw[h1.1] at h;cases h
    · rw[h1.2] at h;cases h
theorem wild_cmp {i j:Nat} (hl:wildAt ops i=true) (hj:j<ops.size) (hne:j≠i) (h:isCall (ops[j]).op=true∨touches (ops[j]).op=true):cmp ops.toList i j=true∨isNew (ops[j]).op=true∨(isLoad (ops[j]).op=true∧rootFree ops j=true∧freeAt ops i=true):=by
  unfold wildAt at hl
  rcases Bool.or_eq_true_iff.1 hl with hl | hl
  · exact .inl (loud_cmp hl hj hne h)
  · have hf:=hl
    unfold freeAt at hl
    simp only[Bool.and_eq_true] at hl
    have:=List.all_eq_true.1 hl.2 j (List.mem_range.2 hj)
    simp only[Bool.or_eq_true,beq_iff_eq] at this
    rcases this with ((h1 | h1) | h1) | h1
    · exact absurd h1 hne
    · exact .inl h1
    · simp[hj] at h1
      rcases h with h | h
      · rw[h1.1] at h;cases h
      · rw[h1.2] at h;cases h
    · simp[hj] at h1
      rcases h1 with h1 | ⟨h1,h2⟩
      · exact .inr (.inl h1)
      · exact .inr (.inr ⟨h1,h2,hf⟩)
theorem touch_of {op:Op} (h:(memOf op).rB=true∨(memOf op).wB=true∨(memOf op).rT=true∨(memOf op).wT=true):touches op=true:=by
  unfold touches
  rcases h with h | h | h | h<;>simp[h]
theorem part_same {X:Type}{f:Nat→X→X}{i:Nat} (hi:i<ops.size) (x:X) (h:∀ j (hj:j<ops.size),(∀ y,f j y=y)∨L j=decide (j<i)):foldF f L ops.size x=foldF f allL i x:=by
  rw[← foldF_lt (k:=i) (n:=ops.size) (by omega)]
  exact foldF_congr fun j hj=>h j hj
theorem B_same (g:Given P ops sp ol E0 S0 base out) (hs:Shut ops L) {i:Nat} (hi:i<ops.size) (hLi:L i=false) (hp:∀ e∈(ops[i]).after.toList,Region.binds .any e=true→L e.on=true)
    (hall:∀ j (hj:j<ops.size),j≠i→((memOf (ops[j]).op).wB=true∨(wildAt ops j=true∧isCall (ops[j]).op=true))→(cmp ops.toList i j=true∨cmp ops.toList j i=true)∨∀ y,(out j).fB y=y):(stL out S0 L ops.size).B=(stL out S0 allL i).B:=by
  refine part_same hi _ fun j hj=>?_
  by_cases e:j=i
  · subst e;exact .inr (by rw[hLi];simp)
  by_cases h1:(memOf (ops[j]).op).wB=true
  · exact (hall j hj e (.inl h1)).symm.imp id fun k=>cmp_listed g.ok hs hi hj hLi hp k (fun h=>e h.symm)
  · by_cases h2:wildAt ops j=true∧isCall (ops[j]).op=true
    · exact (hall j hj e (.inr h2)).symm.imp id fun k=>cmp_listed g.ok hs hi hj hLi hp k (fun h=>e h.symm)
    · exact .inl (fB_id g hj (by simpa using h1) (fun h=>by
        cases hb:isCall (ops[j]).op with
        | false=>rfl
        | true=>exact absurd ⟨h,hb⟩ h2))
theorem T_same (g:Given P ops sp ol E0 S0 base out) (hs:Shut ops L) {i:Nat} (hi:i<ops.size) (hLi:L i=false) (hp:∀ e∈(ops[i]).after.toList,Region.binds .any e=true→L e.on=true)
    (hall:∀ j (hj:j<ops.size),j≠i→((memOf (ops[j]).op).wT=true∨(wildAt ops j=true∧isCall (ops[j]).op=true))→(cmp ops.toList i j=true∨cmp ops.toList j i=true)∨∀ y,(out j).fT y=y):(stL out S0 L ops.size).T=(stL out S0 allL i).T:=by
  refine part_same hi _ fun j hj=>?_
  by_cases e:j=i
  · subst e;exact .inr (by rw[hLi];simp)
  by_cases h1:(memOf (ops[j]).op).wT=true
  · exact (hall j hj e (.inl h1)).symm.imp id fun k=>cmp_listed g.ok hs hi hj hLi hp k (fun h=>e h.symm)
  · by_cases h2:wildAt ops j=true∧isCall (ops[j]).op=true
    · exact (hall j hj e (.inr h2)).symm.imp id fun k=>cmp_listed g.ok hs hi hj hLi hp k (fun h=>e h.symm)
    · exact .inl (fT_id g hj (by simpa using h1) (fun h=>by
        cases hb:isCall (ops[j]).op with
        | false=>rfl
        | true=>exact absurd ⟨h,hb⟩ h2))
theorem x_same (g:Given P ops sp ol E0 S0 base out) (hs:Shut ops L) {i:Nat} (hi:i<ops.size) (hLi:L i=false) (hp:∀ e∈(ops[i]).after.toList,Region.binds .any e=true→L e.on=true)
    (hall:∀ j (hj:j<ops.size),j≠i→(wildAt ops j=true∧isCall (ops[j]).op=true)→(cmp ops.toList i j=true∨cmp ops.toList j i=true)∨∀ y,(out j).fx y=y):(stL out S0 L ops.size).nx=(stL out S0 allL i).nx:=by
  refine part_same hi _ fun j hj=>?_
  by_cases e:j=i
  · subst e;exact .inr (by rw[hLi];simp)
  by_cases h2:wildAt ops j=true∧isCall (ops[j]).op=true
  · exact (hall j hj e h2).symm.imp id fun k=>cmp_listed g.ok hs hi hj hLi hp k (fun h=>e h.symm)
  · exact .inl (fx_id g hj (fun h=>by
      cases hb:isCall (ops[j]).op with
      | false=>rfl
      | true=>exact absurd ⟨h,hb⟩ h2))
theorem clash_cmp (g:DrawOk P ops sp ol) {i j:Nat} (hi:i<ops.size) (hj:j<ops.size) (hne:j≠i) (h:clash (memOf (ops[i]).op) (memOf (ops[j]).op)=true) (h':clash (memOf (ops[j]).op) (memOf (ops[i]).op)=true):(cmp ops.toList i j=true∨cmp ops.toList j i=true)∨SpHas sp i j∨SpHas sp j i∨OlHas ol i j∨EarHas ops i j∨EarHas ops j i:=by
  rcases Nat.lt_trichotomy j i with hlt | e | hlt
  · rcases g.pair i j hi hj hlt with hc | ⟨_,_,h3 | h3 | h3 | h3⟩
    · exact .inl (.inl hc)
    · rw[h] at h3;cases h3
    · exact .inr (.inl h3)
    · exact .inr (.inr (.inr (.inl h3)))
    · exact .inr (.inr (.inr (.inr (.inl h3))))
  · exact absurd e hne
  · rcases g.pair j i hj hi hlt with hc | ⟨_,_,h3 | h3 | ⟨p,hp,h3⟩ | h3⟩
    · exact .inl (.inr hc)
    · rw[h'] at h3;cases h3
    · exact .inr (.inr (.inl h3))
    · exact .inr (.inr (.inr (.inl ⟨p,hp,h3.symm⟩)))
    · exact .inr (.inr (.inr (.inr (.inr h3))))
theorem isNew_mem {op:Op} (h:isNew op=true):(memOf op).rB=false∧(memOf op).rT=false∧(memOf op).wT=false∧callOf op=none:=by
  unfold isNew at h
  split at h
  · exact⟨rfl,rfl,rfl,rfl⟩
  · exact⟨rfl,rfl,rfl,rfl⟩
  · cases h
theorem addr_mem {op:Op}{x:Operand} (h:addrX op=some x):(memOf op).wT=false∧(memOf op).rT=false∧isCall op=false:=by
  unfold addrX at h
  split at h
  · exact⟨rfl,rfl,rfl⟩
  · exact⟨rfl,rfl,rfl⟩
  · cases h
theorem refOf_tmp {E:Env}{u b:Nat}{s:SV} (h:evalO E (.tmp u)=some s) (hb:refOf (E u)=some b):refOf (some s)=some b:=by
  simp only[evalO] at h
  split at h
  · rw[← h];exact hb
  · cases h
theorem rootOf_ok (g:Given P ops sp ol E0 S0 base out):∀ {n t s b:Nat},n≤ops.size→rootOf ops n t=some s→refOf (E0 s)=some b→refOf (envL ops out E0 allL n t)=some b
  | 0,t,s,b,_,h,hb=>by cases h;exact hb
  | n+1,t,s,b,hn,h,hb=>by
    show refOf (stE ops out n (envL ops out E0 allL n) t)=some b
    have hlt:n<ops.size:=by omega
    rw[stE_at]
    unfold rootOf at h
    rw[Array.getElem?_eq_getElem hlt] at h ⊢
    simp only[Option.bind_some] at h ⊢
    by_cases e:(ops[n]).dst=some t
    · rw[if_pos e] at h ⊢
      obtain⟨_,hw,ht,hf⟩:=g.step n hlt
      have main:(ops[n]).guard=none→(out n).w=true:=fun hg=>by
        unfold wantS at hw
        rw[hg] at hw
        simpa using hw.symm
      split at h
      · rename_i u hg ho
        have k:=ht (main hg)
        have ih:=rootOf_ok g (by omega) h hb
        generalize out n=ot at k ⊢
        cases k with
        | op hc he =>
          simp only[evalOp,ho,Option.map_eq_some_iff,Prod.mk.injEq] at he
          obtain⟨s',h1,rfl,_⟩:=he
          exact refOf_tmp h1 ih
        | call hc=>rw[ho] at hc;cases hc
        | inv hc=>rw[ho] at hc;cases hc
        | dyn hc=>rw[ho] at hc;cases hc
        | loud hl hc=>rw[ho] at hc;cases hc
        | own hl hc=>rw[ho] at hc;cases hc
      · rename_i T u k' hg ho
        have k:=ht (main hg)
        have ih:=rootOf_ok g (by omega) h hb
        generalize out n=ot at k ⊢
        cases k with
        | op hc he =>
          simp only[evalOp,ho] at he
          split at he
          · rename_i h1 h2
            have:=refOf_tmp h1 ih
            cases this
          · rename_i h1 h2
            have:=refOf_tmp h1 ih
            simp only[refOf,Option.some.injEq] at this
            simp only[Option.some.injEq,Prod.mk.injEq] at he
            obtain⟨rfl,_⟩:=he
            simp only[refOf,this]
          · cases he
        | call hc=>rw[ho] at hc;cases hc
        | inv hc=>rw[ho] at hc;cases hc
        | dyn hc=>rw[ho] at hc;cases hc
        | loud hl hc=>rw[ho] at hc;cases hc
        | own hl hc=>rw[ho] at hc;cases hc
      · cases h
    · rw[if_neg e] at h ⊢
      exact rootOf_ok g (by omega) h hb
theorem at_form (g:Given P ops sp ol E0 S0 base out) {x:Nat×Nat} (hx:SpAt ops x) {b:Nat} (hb0:refOf (E0 x.2)=some b):(∀ B,(out x.1).fB B=B)∨∃ cs,∀ B,(out x.1).fB B=upd B b cs:=by
  obtain⟨hi,t,ha,hg,hl⟩:=hx
  have hs:=rootOf_ok g (by omega) hl hb0
  obtain⟨_,hw,ht,hf⟩:=g.step x.1 hi
  cases hb:(out x.1).w with
  | false=>rw[hf hb];exact .inl fun _=>rfl
  | true =>
    have:=ht hb
    have hcl:=(addr_mem ha).2.2
    generalize out x.1=ot at this ⊢
    cases this with
    | op hc he =>
      rename_i s e
      cases e with
      | no=>exact .inl fun _=>rfl
      | new cs =>
        have:=(evalOp_eff he).new cs rfl
        unfold addrX at ha
        split at ha
        · rename_i h;rw[h] at this;cases this
        · rename_i T z y h
          unfold evalOp at he
          rw[h] at he
          simp only at he
          split at he
          · split at he
            · obtain⟨_,h5⟩:=onlyIf_ok he
              simp only[Prod.mk.injEq] at h5
              cases h5.2
            · cases he
          · cases he
        · cases ha
      | set b1 cs =>
        refine .inr ⟨cs,fun _=>?_⟩
        unfold addrX at ha
        split at ha
        · rename_i h
          have:=((evalOp_eff he).set b1 cs rfl).1
          rw[h] at this;cases this
        · rename_i T z y h
          cases ha
          unfold evalOp at he
          rw[h] at he
          simp only at he
          split at he
          · rename_i b' off s' n' h6 h7 h8
            split at he
            · obtain⟨_,h5⟩:=onlyIf_ok he
              simp only[Prod.mk.injEq,Eff.set.injEq] at h5
              obtain⟨_,rfl,_⟩:=h5
              have:=refOf_tmp h6 hs
              simp only[refOf,Option.some.injEq] at this
              rw[this];rfl
            · cases he
          · cases he
        · cases ha
      | tip i k sz=>exact .inl fun _=>rfl
      | mov b1 cs =>
        have:=(evalOp_eff he).mov b1 cs rfl
        unfold addrX at ha
        split at ha
        · rename_i h;rw[h] at this;cases this.1
        · rename_i T z y h
          unfold evalOp at he
          rw[h] at he
          simp only at he
          split at he
          · split at he
            · obtain⟨_,h5⟩:=onlyIf_ok he
              simp only[Prod.mk.injEq] at h5
              cases h5.2
            · cases he
          · cases he
        · cases ha
    | call=>exact .inl fun _=>rfl
    | inv=>exact .inl fun _=>rfl
    | dyn=>exact .inl fun _=>rfl
    | loud h1 hc =>
      unfold isCall at hcl
      rw[hc] at hcl;cases hcl
    | own h1 hc =>
      unfold isCall at hcl
      rw[hc] at hcl;cases hcl
theorem sep_far (g:Given P ops sp ol E0 S0 base out) {x y:Nat×Nat} (hx:SpAt ops x) (hy:SpAt ops y) (h:apart (refOf (E0 x.2)) (refOf (E0 y.2))) :
    ∃ b,addrB (envL ops out E0 allL x.1) ((ops[x.1]?).map (·.op)).get!=some b∧∀ B,(out y.1).fB B b=B b:=by
  obtain⟨hi,t,ha,hg,hl⟩:=id hx
  cases hb:refOf (E0 x.2) with
  | none=>rw[hb] at h;exact h.elim
  | some b =>
    refine⟨b,?_,fun B=>?_⟩
    · rw[Array.getElem?_eq_getElem hi]
      simp only[Option.map_some,Option.get!_some,addrB,ha,evalO,if_pos hg]
      exact rootOf_ok g (by omega) hl hb
    · rw[hb] at h
      cases hc:refOf (E0 y.2) with
      | none=>rw[hc] at h;exact h.elim
      | some c =>
        rw[hc] at h
        rcases at_form g hy hc with k | ⟨cs,k⟩
        · rw[k]
        · rw[k];exact upd_ne _ _ h
theorem new_form (g:Given P ops sp ol E0 S0 base out) {j:Nat} (hj:NewAt ops j):(∀ B,(out j).fB B=B)∨∃ cs,∀ B,(out j).fB B=upd B (base+j) cs:=by
  obtain⟨hlt,hn⟩:=hj
  obtain⟨_,hw,ht,hf⟩:=g.step j hlt
  cases hb:(out j).w with
  | false=>rw[hf hb];exact .inl fun _=>rfl
  | true =>
    have:=ht hb
    have hc0:=(isNew_mem hn).2.2.2
    generalize out j=ot at this ⊢
    cases this with
    | op hc he =>
      rename_i s e
      cases e with
      | no=>exact .inl fun _=>rfl
      | new cs=>exact .inr ⟨cs,fun _=>rfl⟩
      | tip i k sz=>exact .inl fun _=>rfl
      | set b cs =>
        have:=((evalOp_eff he).set b cs rfl).2
        unfold isNew at hn
        split at hn
        · rename_i h;rw[h] at this;cases this
        · rename_i h;rw[h] at this;cases this
        · cases hn
      | mov b cs =>
        have:=((evalOp_eff he).mov b cs rfl).2
        unfold isNew at hn
        split at hn
        · rename_i h;rw[h] at this;cases this
        · rename_i h;rw[h] at this;cases this
        · cases hn
    | call hc=>rw[hc0] at hc;cases hc
    | inv hc=>rw[hc0] at hc;cases hc
    | dyn hc=>rw[hc0] at hc;cases hc
    | loud h1 hc=>rw[hc0] at hc;cases hc
    | own h1 hc=>rw[hc0] at hc;cases hc
theorem old_far (g:Given P ops sp ol E0 S0 base out) {p:(Nat×Nat)×Nat} (hm:p∈ol) :
    ∃ b,addrB (envL ops out E0 allL p.1.1) ((ops[p.1.1]?).map (·.op)).get!=some b∧b<base∧∀ B,(out p.2).fB B b=B b:=by
  obtain⟨⟨hi,t,ha,hg,hl⟩,hn⟩:=g.ok.olOk p hm
  have hbl:=OldT.of g.old p hm
  cases hb:refOf (E0 p.1.2) with
  | none=>rw[hb] at hbl;exact hbl.elim
  | some b =>
    rw[hb] at hbl
    have hbl:b<base:=hbl
    refine⟨b,?_,hbl,fun B=>?_⟩
    · rw[Array.getElem?_eq_getElem hi]
      simp only[Option.map_some,Option.get!_some,addrB,ha,evalO,if_pos hg]
      exact rootOf_ok g (by omega) hl hb
    · rcases new_form g hn with k | ⟨cs,k⟩
      · rw[k]
      · rw[k];exact upd_ne _ _ (by omega)
theorem apart_symm {a b:Option Nat} (h:apart a b):apart b a:=by
  cases a<;>cases b
  all_goals first | exact h.elim | exact fun e=>h e.symm
theorem foldF_at {α β:Type}{f:Nat→(α→β)→(α→β)}{L M:Nat→Bool}{b:α}{x:α→β}:∀ {n:Nat},(∀ j,j<n→∀ y z:α→β,y b=z b→f j y b=f j z b)→(∀ j,j<n→(∀ y,f j y b=y b)∨L j=M j)→foldF (X:=α→β) f L n x b=foldF (X:=α→β) f M n x b:=by
  intro n
  induction n with
  | zero=>intro _ _;rfl
  | succ n ih0 =>
    intro hp h
    have ih:=ih0 (fun j hj=>hp j (by omega)) (fun j hj=>h j (by omega))
    show (if L n=true then f n (foldF f L n x) else foldF f L n x) b=(if M n=true then f n (foldF f M n x) else foldF f M n x) b
    rcases h n (by omega) with h1 | h1
    · by_cases a:L n=true<;>by_cases c:M n=true
      · rw[if_pos a,if_pos c,h1,h1];exact ih
      · rw[if_pos a,if_neg c,h1];exact ih
      · rw[if_neg a,if_pos c,h1];exact ih
      · rw[if_neg a,if_neg c];exact ih
    · rw[h1]
      by_cases c:M n=true
      · rw[if_pos c,if_pos c];exact hp n (by omega) _ _ ih
      · rw[if_neg c,if_neg c];exact ih
theorem fB_pw (g:Given P ops sp ol E0 S0 base out) {j:Nat} (hj:j<ops.size) {b:Nat}{y z:Nat→Option (List SV)} (h:y b=z b):(out j).fB y b=(out j).fB z b:=by
  obtain⟨_,hw,ht,hf⟩:=g.step j hj
  cases hb:(out j).w with
  | false=>rw[hf hb];exact h
  | true =>
    have:=ht hb
    generalize out j=ot at *
    cases this with
    | op hc he =>
      rename_i s e
      cases e with
      | no=>exact h
      | new cs=>simp only[effB,upd];split<;>first | rfl | exact h
      | set b cs=>simp only[effB,upd];split<;>first | rfl | exact h
      | tip i k sz=>exact h
      | mov b' cs =>
        simp only[effB,upd]
        split
        · rfl
        · split
          · rfl
          · exact h
    | call=>exact h
    | inv=>exact h
    | dyn=>exact h
    | loud=>rfl
    | own h1 hc ha hlc=>exact hlc.pw _ _ _ h
theorem B_same_at (g:Given P ops sp ol E0 S0 base out) (hs:Shut ops L) {i b:Nat} (hi:i<ops.size) (hLi:L i=false) (hp:∀ e∈(ops[i]).after.toList,Region.binds .any e=true→L e.on=true)
    (hall:∀ j (hj:j<ops.size),j≠i→((memOf (ops[j]).op).wB=true∨(wildAt ops j=true∧isCall (ops[j]).op=true))→(cmp ops.toList i j=true∨cmp ops.toList j i=true)∨∀ B,(out j).fB B b=B b):(stL out S0 L ops.size).B b=(stL out S0 allL i).B b:=by
  show foldF _ L ops.size S0.B b=foldF _ allL i S0.B b
  rw[← foldF_lt (k:=i) (n:=ops.size) (by omega)]
  refine foldF_at (fun j hj y z h=>fB_pw g hj h) fun j hj=>?_
  by_cases e:j=i
  · subst e;exact .inr (by rw[hLi];simp)
  have quiet:((memOf (ops[j]).op).wB=true∨(wildAt ops j=true∧isCall (ops[j]).op=true))∨∀ B,(out j).fB B=B:=by
    by_cases h1:(memOf (ops[j]).op).wB=true
    · exact .inl (.inl h1)
    · by_cases h2:wildAt ops j=true∧isCall (ops[j]).op=true
      · exact .inl (.inr h2)
      · exact .inr (fB_id g hj (by simpa using h1) (fun h=>by
          cases hb:isCall (ops[j]).op with
          | false=>rfl
          | true=>exact absurd ⟨h,hb⟩ h2))
  rcases quiet with q | q
  · rcases hall j hj e q with h | h
    · exact .inr (cmp_listed g.ok hs hi hj hLi hp h (fun h=>e h.symm))
    · exact .inl h
  · exact .inl fun y=>by rw[q]
theorem clash_rB {a b:Mem} (h:a.rB=true) (k:b.wB=true):clash a b=true∧clash b a=true:=by constructor<;>simp[clash,h,k]
theorem clash_rT {a b:Mem} (h:a.rT=true) (k:b.wT=true):clash a b=true∧clash b a=true:=by constructor<;>simp[clash,h,k]
theorem wild_form (g:Given P ops sp ol E0 S0 base out) {j:Nat} (hj:j<ops.size) (hcall:isCall (ops[j]).op=true):((∀ B,(out j).fB B=B)∧(∀ T,(out j).fT T=T))∨loudAt ops.toList j=true ∨
    (freeAt ops j=true∧OldT (oldOf ops j) base (envL ops out E0 allL j)∧(∀ T,(out j).fT T=T)∧(∀ B q cs,q<base+ops.size→(out j).fB (upd B q cs)=upd ((out j).fB B) q cs)∧∀ B b,b<base+ops.size→(out j).fB B b=B b):=by
  obtain⟨_,hw,ht,hf⟩:=g.step j hj
  cases hb:(out j).w with
  | false=>rw[hf hb];exact .inl ⟨fun _=>rfl,fun _=>rfl⟩
  | true =>
    have:=ht hb
    generalize out j=ot at *
    cases this with
    | op hc he=>unfold isCall at hcall;rw[hc] at hcall;cases hcall
    | call=>exact .inl ⟨fun _=>rfl,fun _=>rfl⟩
    | inv=>exact .inl ⟨fun _=>rfl,fun _=>rfl⟩
    | dyn=>exact .inl ⟨fun _=>rfl,fun _=>rfl⟩
    | loud h1 hc ha hlc=>exact .inr (.inl (wild_loud hj h1).1)
    | own h1 hc ha hlc=>exact .inr (.inr ⟨(wild_free h1).1,(wild_free h1).2.1,fun _=>rfl,hlc.loc,hlc.keep⟩)
theorem isLoad_mem {op:Op} (h:isLoad op=true):(memOf op).wB=false∧(memOf op).rT=false∧(memOf op).wT=false∧callOf op=none:=by
  unfold isLoad at h
  split at h
  · exact⟨rfl,rfl,rfl,rfl⟩
  · cases h
theorem cmp_symm {l:List Oper} (i j:Nat):cmp l i j=cmp l j i:=by unfold cmp;exact Bool.or_comm _ _
theorem load_old (g:Given P ops sp ol E0 S0 base out) {i j:Nat} (hi:i<ops.size) (hj:j<ops.size) (hne:j≠i) (hl:isLoad (ops[i]).op=true) (hr:rootFree ops i=true) (ho:OldT (oldOf ops j) base (envL ops out E0 allL j)) (hn:cmp ops.toList i j=false) :
    ∃ b,addrB (envL ops out E0 allL i) (ops[i]).op=some b∧b<base:=by
  unfold rootFree at hr
  split at hr
  · rename_i s hs0
    have hs:=hs0
    unfold rootAt at hs
    rw[Array.getElem?_eq_getElem hi] at hs
    simp only at hs
    split at hs
    · rename_i t ht
      split at hs
      · rename_i hg
        have hm:((i,s),j)∈oldOf ops j:=by
          unfold oldOf
          refine List.mem_filterMap.2 ⟨i,List.mem_range.2 hi,?_⟩
          rw[if_neg (by rw[cmp_symm,hn];simp;omega),if_pos (by simp[hi,hl]),hs0]
          rfl
        have hb:=OldT.of ho _ hm
        have hE:envL ops out E0 allL j s=E0 s:=by
          rw[envL_at]
          have:∀ (n:Nat),n≤ops.size→foldF (fun j x=>if ((ops[j]?).bind (·.dst))=some s then some (out j).s else x) allL n (E0 s)=E0 s:=by
            intro n
            induction n with
            | zero=>intro _;rfl
            | succ n ih =>
              intro hle
              simp only[foldF,if_true]
              have hd:¬ ((ops[n]?).bind (·.dst))=some s:=by
                rw[Array.getElem?_eq_getElem (by omega)]
                have:=List.all_eq_true.1 hr ops[n] (by simp)
                simpa using this
              rw[if_neg hd]
              exact ih (by omega)
          exact this j (by omega)
        simp only at hb
        rw[hE] at hb
        cases hc:refOf (E0 s) with
        | none=>rw[hc] at hb;exact hb.elim
        | some b =>
          rw[hc] at hb
          refine⟨b,?_,hb⟩
          simp only[addrB,ht,evalO,if_pos hg]
          exact rootOf_ok g (by omega) hs hc
      · cases hs
    · cases hs
  · cases hr
theorem new_none (g:Given P ops sp ol E0 S0 base out) {j:Nat} (hj:j<ops.size):∀ i,i≤j→(∀ q (h:q<ops.size),q<i→isCall (ops[q]).op=false)→(stL out S0 allL i).B (base+j)=none
  | 0,_,_=>g.fresh j hj
  | i+1,hle,hc=>by
    have ih:=new_none g hj i (by omega) fun q h hq=>hc q h (by omega)
    have hi:i<ops.size:=by omega
    have eB:(stL out S0 allL (i+1)).B=(out i).fB (stL out S0 allL i).B:=rfl
    rw[eB]
    clear eB
    have hci:=hc i hi (by omega)
    obtain⟨_,hw,ht,hf⟩:=g.step i hi
    cases hb:(out i).w with
    | false=>rw[hf hb];exact ih
    | true =>
      have:=ht hb
      generalize out i=ot at *
      cases this with
      | op hcl he =>
        rename_i s e
        cases e with
        | no=>exact ih
        | new cs=>exact (upd_ne _ _ (by omega)).trans ih
        | set b cs =>
          have hs:=set_has he
          exact (upd_ne _ _ (fun e=>hs (by rw[← e];exact ih))).trans ih
        | tip i k sz=>exact ih
        | mov b cs =>
          show upd (fun x=>if x=b then none else (stL out S0 allL i).B x) (base+i) cs (base+j)=none
          rw[upd_ne _ _ (show base+j≠base+i by omega)]
          show (if base+j=b then none else _)=none
          split
          · rfl
          · exact ih
      | call=>exact ih
      | inv=>exact ih
      | dyn=>exact ih
      | loud h1 hcl=>unfold isCall at hci;rw[hcl] at hci;cases hci
      | own h1 hcl=>unfold isCall at hci;rw[hcl] at hci;cases hci
theorem step_same (g:Given P ops sp ol E0 S0 base out) (hs:Shut ops L) {i:Nat} (hi:i<ops.size) (hLi:L i=false) (hp:∀ e∈(ops[i]).after.toList,Region.binds .any e=true→L e.on=true) :
    Step1 (loAt (drawLo ops) ops base i (envL ops out E0 allL i)) P ops (base+i) ops[i] (envL ops out E0 L ops.size) (stL out S0 L ops.size) (out i):=by
  obtain⟨hd,hw,ht,hf⟩:=g.step i hi
  have hargs:∀ xs:List Operand,(∀ x∈xs,x∈(ops[i]).op.operands)→argsS (envL ops out E0 L ops.size) xs=argsS (envL ops out E0 allL i) xs:=fun xs hx=>argsS_congr fun x hm=>operand_same g hs hi hLi hp (hx x hm)
  have ofLoud:∀ j (hj:j<ops.size),j≠i→touches (ops[i]).op=true∨isCall (ops[i]).op=true→(wildAt ops j=true∧isCall (ops[j]).op=true)→(cmp ops.toList i j=true∨cmp ops.toList j i=true)∨isNew (ops[i]).op=true∨(isLoad (ops[i]).op=true∧rootFree ops i=true):=fun j hj hne h1 h2=>by
    rcases wild_cmp h2.1 hi (fun h=>hne h.symm) h1.symm with h | h | h
    · exact .inl (.inr h)
    · exact .inr (.inl h)
    · exact .inr (.inr ⟨h.1,h.2.1⟩)
  have ofCall:∀ j (hj:j<ops.size),j≠i→isCall (ops[i]).op=true→(wildAt ops j=true∧isCall (ops[j]).op=true)→cmp ops.toList i j=true∨cmp ops.toList j i=true:=fun j hj hne h1 h2=>by
    have hci:callOf (ops[i]).op≠none:=fun e=>by unfold isCall at h1;rw[e] at h1;cases h1
    rcases ofLoud j hj hne (.inr h1) h2 with h | h | h
    · exact h
    · exact absurd (isNew_mem h).2.2.2 hci
    · exact absurd (isLoad_mem h.1).2.2.2 hci
  refine⟨hd,?_,fun hb=>?_,hf⟩
  · rw[← hw]
    exact wantS_congr fun gi w d h1 h2=>by simp only[evalO,slot_same g hs hi hLi hp (looksAt_guard h1 h2)]
  · have:=ht hb
    generalize hot:out i=ot at this ⊢
    cases this with
    | op hc he =>
      refine .op hc ?_
      rw[← he]
      refine evalOp_congr (fun x hx=>operand_same g hs hi hLi hp hx) (fun hr=>?_) (fun hr=>?_) rfl rfl
      · have ofW:∀ j (hj:j<ops.size),j≠i→(wildAt ops j=true∧isCall (ops[j]).op=true)→((cmp ops.toList i j=true∨cmp ops.toList j i=true)∨∀ B,(out j).fB B=B)∨(∃ b,addrB (envL ops out E0 allL i) (ops[i]).op=some b∧∀ B,(out j).fB B b=B b):=fun j hj hne h=>by
          rcases wild_form g hj h.2 with h1 | h1 | ⟨_,h2,_,_,h5⟩
          · exact .inl (.inr h1.1)
          · exact .inl (.inl (.inr (loud_cmp h1 hi (fun e=>hne e.symm) (.inr (touch_of (.inl hr))))))
          · rcases ofLoud j hj hne (.inl (touch_of (.inl hr))) h with k | k | k
            · exact .inl (.inl k)
            · rw[(isNew_mem k).1] at hr;cases hr
            · cases hn:cmp ops.toList i j with
              | true=>exact .inl (.inl (.inl rfl))
              | false =>
                obtain⟨b,k1,k2⟩:=load_old g hi hj hne k.1 k.2 h2 hn
                exact .inr ⟨b,k1,fun B=>h5 B b (by omega)⟩
        by_cases hdat:isLoad (ops[i]).op=true∧addrB (envL ops out E0 allL i) (ops[i]).op=none
        · exact .inr (.inr hdat)
        have ear:∀ j,EarHas ops j i→∀ b,addrB (envL ops out E0 allL i) (ops[i]).op=some b→∀ B,(out j).fB B b=B b:=fun j ⟨hlt,hn,⟨_,hl⟩,hc⟩ b hb B=>by
          have h1:=load_has he hl hb
          have h2:=new_none g hn.1 i (by omega) hc
          have hne:b≠base+j:=fun e=>h1 (by rw[e];exact h2)
          rcases new_form g hn with q | ⟨cs,q⟩
          · rw[q]
          · rw[q];exact upd_ne _ _ hne
        by_cases hsp:(∃ p∈sp,p.1.1=i∨p.2.1=i)∨(∃ p∈ol,p.1.1=i)∨∃ b,addrB (envL ops out E0 allL i) (ops[i]).op=some b
        · refine .inr ?_
          have key:∀ p∈sp,(p.1.1=i→∃ b,addrB (envL ops out E0 allL i) (ops[i]).op=some b∧∀ B,(out p.2.1).fB B b=B b)∧(p.2.1=i→∃ b,addrB (envL ops out E0 allL i) (ops[i]).op=some b∧∀ B,(out p.1.1).fB B b=B b):=fun p hm=>by
            obtain⟨s1,s2⟩:=g.ok.spOk p hm
            have ap:=SepT.of g.sep p hm
            refine⟨fun e=>?_,fun e=>?_⟩
            · have:=sep_far g s1 s2 ap
              simpa only [e,Array.getElem?_eq_getElem hi,Option.map_some,Option.get!_some] using this
            · have:=sep_far g s2 s1 (apart_symm ap)
              simpa only [e,Array.getElem?_eq_getElem hi,Option.map_some,Option.get!_some] using this
          have keyO:∀ p∈ol,p.1.1=i→∃ b,addrB (envL ops out E0 allL i) (ops[i]).op=some b∧∀ B,(out p.2).fB B b=B b:=fun p hm e=>by
            obtain⟨b,h1,_,h3⟩:=old_far g hm
            refine⟨b,?_,h3⟩
            simpa only [e,Array.getElem?_eq_getElem hi,Option.map_some,Option.get!_some] using h1
          obtain⟨b,hb1⟩:∃ b,addrB (envL ops out E0 allL i) (ops[i]).op=some b:=by
            rcases hsp with ⟨p,hm,e | e⟩ | ⟨p,hm,e⟩ | h
            · obtain⟨b,h,_⟩:=(key p hm).1 e;exact⟨b,h⟩
            · obtain⟨b,h,_⟩:=(key p hm).2 e;exact⟨b,h⟩
            · obtain⟨b,h,_⟩:=keyO p hm e;exact⟨b,h⟩
            · exact h
          refine .inl ⟨b,hb1,B_same_at g hs hi hLi hp fun j hj hne h=>?_⟩
          rcases h with h | h
          · rcases clash_cmp g.ok hi hj hne (clash_rB hr h).1 (clash_rB hr h).2 with h | ⟨p,hm,e1,e2⟩ | ⟨p,hm,e1,e2⟩ | ⟨p,hm,⟨e1,e2⟩ | ⟨e1,e2⟩⟩ | h | h
            rotate_right 2
            · obtain⟨_,hn⟩:=h.2.1
              rw[(isNew_mem hn).1] at hr;cases hr
            · exact .inr (ear j h b hb1)
            · exact .inl h
            · obtain⟨c,h1,h2⟩:=(key p hm).1 e1
              rw[hb1] at h1;cases h1
              rw[← e2];exact .inr h2
            · obtain⟨c,h1,h2⟩:=(key p hm).2 e2
              rw[hb1] at h1;cases h1
              rw[← e1];exact .inr h2
            · obtain⟨c,h1,h2⟩:=keyO p hm e1
              rw[hb1] at h1;cases h1
              rw[← e2];exact .inr h2
            · obtain⟨_,hn⟩:=(g.ok.olOk p hm).2
              simp only[e2] at hn
              rw[(isNew_mem hn).1] at hr;cases hr
          · rcases ofW j hj hne h with (h | h) | ⟨c,h1,h2⟩
            · exact .inl h
            · exact .inr fun B=>by rw[h]
            · rw[hb1] at h1;cases h1
              exact .inr h2
        · exact .inl (B_same g hs hi hLi hp fun j hj hne h=>by
            rcases h with h | h
            · rcases clash_cmp g.ok hi hj hne (clash_rB hr h).1 (clash_rB hr h).2 with h | ⟨p,hm,e1,e2⟩ | ⟨p,hm,e1,e2⟩ | ⟨p,hm,⟨e1,e2⟩ | ⟨e1,e2⟩⟩ | h | h
              rotate_right 2
              · obtain⟨_,hn⟩:=h.2.1
                rw[(isNew_mem hn).1] at hr;cases hr
              · refine absurd ⟨h.2.2.1.2,?_⟩ hdat
                cases hq:addrB (envL ops out E0 allL i) (ops[i]).op with
                | none=>rfl
                | some b=>exact absurd (.inr (.inr ⟨b,hq⟩)) hsp
              · exact .inl h
              · exact absurd (.inl ⟨p,hm, .inl e1⟩) hsp
              · exact absurd (.inl ⟨p,hm, .inr e2⟩) hsp
              · exact absurd (.inr (.inl ⟨p,hm,e1⟩)) hsp
              · obtain⟨_,hn⟩:=(g.ok.olOk p hm).2
                simp only[e2] at hn
                rw[(isNew_mem hn).1] at hr;cases hr
            · rcases ofW j hj hne h with h | ⟨c,h1,h2⟩
              · exact h
              · exact absurd (.inr (.inr ⟨c,h1⟩)) hsp)
      · exact T_same g hs hi hLi hp fun j hj hne h=>by
          rcases h with h | h
          · rcases clash_cmp g.ok hi hj hne (clash_rT hr h).1 (clash_rT hr h).2 with h1 | ⟨p,hm,e1,e2⟩ | ⟨p,hm,e1,e2⟩ | ⟨p,hm,⟨e1,e2⟩ | ⟨e1,e2⟩⟩ | h1 | h1
            rotate_right 2
            · obtain⟨_,hn⟩:=h1.2.1
              rw[(isNew_mem hn).2.1] at hr;cases hr
            · rw[(isLoad_mem h1.2.2.1.2).2.1] at hr;cases hr
            · exact .inl h1
            · obtain⟨k,t,ha,_⟩:=(g.ok.spOk p hm).1
              simp only[e1] at ha
              rw[(addr_mem ha).2.1] at hr;cases hr
            · obtain⟨k,t,ha,_⟩:=(g.ok.spOk p hm).2
              simp only[e2] at ha
              rw[(addr_mem ha).2.1] at hr;cases hr
            · obtain⟨k,t,ha,_⟩:=(g.ok.olOk p hm).1
              simp only[e1] at ha
              rw[(addr_mem ha).2.1] at hr;cases hr
            · obtain⟨_,hn⟩:=(g.ok.olOk p hm).2
              simp only[e2] at hn
              rw[(isNew_mem hn).2.1] at hr;cases hr
          · rcases ofLoud j hj hne (.inl (touch_of (.inr (.inr (.inl hr))))) h with k | k | k
            · exact .inl k
            · rw[(isNew_mem k).2.1] at hr;cases hr
            · rw[(isLoad_mem k.1).2.1] at hr;cases hr
    | call hc ha hd' h =>
      obtain⟨ts,ho⟩:=callOf_fn hc
      refine .call hc ?_ hd' h
      rw[← ha]
      exact hargs _ fun x hx=>by rw[ho];simp only[Op.operands,Call.operands];exact Array.mem_append_right _ (by simpa using hx)
    | inv hc hx ha hm hd' h =>
      obtain⟨ts,ho⟩:=callOf_inv hc
      refine .inv hc ?_ ?_ hm hd' h
      · rw[← hx];exact operand_same g hs hi hLi hp (by rw[ho];simp[Op.operands,Call.operands])
      · rw[← ha]
        exact hargs _ fun x hx=>by rw[ho];simp only[Op.operands,Call.operands];exact Array.mem_append_right _ (by simpa using hx)
    | dyn hc hx hf ha hd' h =>
      obtain⟨ts,ho⟩:=callOf_dyn hc
      refine .dyn hc ?_ hf ?_ hd' h
      · rw[← hx];exact operand_same g hs hi hLi hp (by rw[ho];simp[Op.operands,Call.operands])
      · rw[← ha]
        exact hargs _ fun x hx=>by rw[ho];simp only[Op.operands,Call.operands];exact Array.mem_append_right _ (by simpa using hx)
    | loud hl hc ha h =>
      obtain⟨ts,ho⟩:=callOf_fn hc
      have hcall:isCall (ops[i]).op=true:=by unfold isCall;rw[hc];rfl
      have hl':=(wild_loud hi hl).1
      have eS:stL out S0 L ops.size=stL out S0 allL i:=by
        have e1:=B_same g hs hi hLi hp fun j hj hne h=>.inl (by
          rcases h with h | h
          · exact .inl (loud_cmp hl' hj hne (.inr (touch_of (.inr (.inl h)))))
          · exact ofCall j hj hne hcall h)
        have e2:=T_same g hs hi hLi hp fun j hj hne h=>.inl (by
          rcases h with h | h
          · exact .inl (loud_cmp hl' hj hne (.inr (touch_of (.inr (.inr (.inr h))))))
          · exact ofCall j hj hne hcall h)
        have e3:=x_same g hs hi hLi hp fun j hj hne h=>.inl (ofCall j hj hne hcall h)
        unfold stL at e1 e2 e3 ⊢
        simp only at e1 e2 e3
        rw[e1,e2,e3]
      rw[eS]
      refine .loud hl hc ?_ h
      rw[← ha]
      exact hargs _ fun x hx=>by rw[ho];simp only[Op.operands,Call.operands];exact Array.mem_append_right _ (by simpa using hx)
    | own hl hc ha h =>
      obtain⟨ts,ho⟩:=callOf_fn hc
      have hcall:isCall (ops[i]).op=true:=by unfold isCall;rw[hc];rfl
      obtain⟨hl1,hl2,hl3⟩:=wild_free hl
      have byFree:∀ j (hj:j<ops.size),j≠i→touches (ops[j]).op=true→cmp ops.toList i j=true∨isNew (ops[j]).op=true∨isLoad (ops[j]).op=true:=fun j hj hne ht'=>by
        rcases wild_cmp hl3 hj hne (.inr ht') with k | k | k
        · exact .inl k
        · exact .inr (.inl k)
        · exact .inr (.inr k.1)
      have e2:=T_same g hs hi hLi hp fun j hj hne h=>.inl (by
        rcases h with h | h
        · rcases byFree j hj hne (touch_of (.inr (.inr (.inr h)))) with k | k | k
          · exact .inl k
          · rw[(isNew_mem k).2.2.1] at h;cases h
          · rw[(isLoad_mem k).2.2.1] at h;cases h
        · exact ofCall j hj hne hcall h)
      have e3:=x_same g hs hi hLi hp fun j hj hne h=>.inl (ofCall j hj hne hcall h)
      have e1:∀ b,b<base→(stL out S0 L ops.size).B b=(stL out S0 allL i).B b:=fun b hlt=>B_same_at g hs hi hLi hp fun j hj hne h=>by
        rcases h with h | h
        · rcases byFree j hj hne (touch_of (.inr (.inl h))) with k | k | k
          · exact .inl (.inl k)
          · rcases new_form g ⟨hj,k⟩ with q | ⟨cs,q⟩
            · exact .inr fun B=>by rw[q]
            · exact .inr fun B=>by rw[q];exact upd_ne _ _ (by omega)
          · rw[(isLoad_mem k).1] at h;cases h
        · exact .inl (ofCall j hj hne hcall h)
      refine .own hl hc ?_ ⟨fun S1 k1 k2 k3 k4 k5 k6=>h.call S1 (by rw[k1];rfl) (by rw[k2,e3]) (by rw[k3];rfl) (by rw[k4];rfl) (by rw[k5,e2]) (fun b hb=>by rw[k6 b hb];exact e1 b hb),h.loc,h.keep,h.pw⟩
      rw[← ha]
      exact hargs _ fun x hx=>by rw[ho];simp only[Op.operands,Call.operands];exact Array.mem_append_right _ (by simpa using hx)
end
end
end Go.Sh
namespace Go.Sh
open Go.RowKit (Below)
section
variable {P:Program}{sp:Spl}{ol:Old}{ops:Array Oper}{E0:Env}{S0:St}{base:Nat}{out:Nat→Out}{L:Nat→Bool}
theorem B_form (g:Given P ops sp ol E0 S0 base out) {j:Nat} (hj:j<ops.size) (hl:¬ (wildAt ops j=true∧isCall (ops[j]).op=true)):(∀ B,(out j).fB B=B) ∨
    ((memOf (ops[j]).op).wB=true∧((∃ cs,∀ B,(out j).fB B=upd B (base+j) cs)∨(memOf (ops[j]).op).own=false)):=by
  obtain⟨_,hw,ht,hf⟩:=g.step j hj
  cases hb:(out j).w with
  | false=>rw[hf hb];exact .inl fun _=>rfl
  | true =>
    have:=ht hb
    generalize out j=ot at *
    cases this with
    | op hc he =>
      rename_i s e
      have k:=evalOp_eff he
      cases e with
      | no=>exact .inl fun _=>rfl
      | new cs=>exact .inr ⟨k.new cs rfl, .inl ⟨cs,fun _=>rfl⟩⟩
      | set b cs=>exact .inr ⟨(k.set b cs rfl).1, .inr (k.set b cs rfl).2⟩
      | tip i k sz=>exact .inl fun _=>rfl
      | mov b cs=>exact .inr ⟨(k.mov b cs rfl).1, .inr (k.mov b cs rfl).2⟩
    | call=>exact .inl fun _=>rfl
    | inv=>exact .inl fun _=>rfl
    | dyn=>exact .inl fun _=>rfl
    | loud h1 hc ha hlc=>exact absurd ⟨(wild_loud hj h1).2,by unfold isCall;rw[hc];rfl⟩ hl
    | own h1 hc ha hlc=>exact absurd ⟨(wild_free h1).2.2,by unfold isCall;rw[hc];rfl⟩ hl
theorem T_form (g:Given P ops sp ol E0 S0 base out) {j:Nat} (hj:j<ops.size) (hl:¬ (wildAt ops j=true∧isCall (ops[j]).op=true)):(∀ T,(out j).fT T=T) ∨
    ((memOf (ops[j]).op).wT=true∧((∃ p,∀ T,(out j).fT T=upd T (base+j) p)∨(memOf (ops[j]).op).own=false)):=by
  obtain⟨_,hw,ht,hf⟩:=g.step j hj
  cases hb:(out j).w with
  | false=>rw[hf hb];exact .inl fun _=>rfl
  | true =>
    have:=ht hb
    generalize out j=ot at *
    cases this with
    | op hc he =>
      rename_i s e
      have k:=evalOp_eff he
      cases e with
      | no=>exact .inl fun _=>rfl
      | new cs=>exact .inl fun _=>rfl
      | set b cs=>exact .inl fun _=>rfl
      | mov b cs=>exact .inl fun _=>rfl
      | tip i k' sz =>
        obtain⟨h1,h2⟩:=k.tip i k' sz rfl
        refine .inr ⟨h1,?_⟩
        cases ho:(memOf (ops[j]).op).own with
        | true =>
          have:=h2 ho
          subst this
          exact .inl ⟨(k',sz),fun _=>rfl⟩
        | false=>exact .inr rfl
    | call=>exact .inl fun _=>rfl
    | inv=>exact .inl fun _=>rfl
    | dyn=>exact .inl fun _=>rfl
    | loud h1 hc ha hlc=>exact absurd ⟨(wild_loud hj h1).2,by unfold isCall;rw[hc];rfl⟩ hl
    | own h1 hc ha hlc=>exact absurd ⟨(wild_free h1).2.2,by unfold isCall;rw[hc];rfl⟩ hl
theorem upd_comm {α:Type} (f:Nat→Option α) {i j:Nat} (x y:α) (h:i≠j):upd (upd f i x) j y=upd (upd f j y) i x:=by
  funext k
  unfold upd
  by_cases a:k=j
  · subst a
    rw[if_pos rfl,if_neg (fun e=>h e.symm),if_pos rfl]
  · rw[if_neg a]
    by_cases b:k=i
    · rw[if_pos b,if_pos b]
    · rw[if_neg b,if_neg b,if_neg a]
theorem clash_w {a b:Mem} (h:clash a b=false):(a.wB=true→b.wB=true→a.own=true∧b.own=true)∧(a.wT=true→b.wT=true→a.own=true∧b.own=true):=by
  unfold clash at h
  simp only[Bool.or_eq_false_iff,Bool.and_eq_false_iff,Bool.not_eq_false'] at h
  obtain⟨⟨_,h1⟩,h2⟩:=h
  refine⟨fun x y=>?_,fun x y=>?_⟩
  · simp only[x,y,Bool.true_eq_false,Bool.and_eq_true,false_or] at h1;exact h1
  · simp only[x,y,Bool.true_eq_false,Bool.and_eq_true,false_or] at h2;exact h2
theorem quiet_pair (g:Given P ops sp ol E0 S0 base out) {i j:Nat} (hi:i<ops.size) (hj:j<ops.size) (hlt:i<j) (h1:cmp ops.toList j i=false) (h2:cmp ops.toList i j=false) :
    (wildAt ops i=true∧isCall (ops[i]).op=true→(touches (ops[j]).op=false∨isNew (ops[j]).op=true∨isLoad (ops[j]).op=true)∧¬ (wildAt ops j=true∧isCall (ops[j]).op=true)) ∧
    (wildAt ops j=true∧isCall (ops[j]).op=true→(touches (ops[i]).op=false∨isNew (ops[i]).op=true∨isLoad (ops[i]).op=true)∧¬ (wildAt ops i=true∧isCall (ops[i]).op=true))∧(clash (memOf (ops[j]).op) (memOf (ops[i]).op)=false∨SpHas sp j i∨OlHas ol j i∨EarHas ops j i):=by
  have side:∀ i j (hi:i<ops.size) (hj:j<ops.size),j≠i→cmp ops.toList i j=false→wildAt ops i=true∧isCall (ops[i]).op=true→(touches (ops[j]).op=false∨isNew (ops[j]).op=true∨isLoad (ops[j]).op=true)∧¬ (wildAt ops j=true∧isCall (ops[j]).op=true):=fun i j hi hj hne hn h=>by
    refine⟨?_,fun k=>?_⟩
    · cases hb:touches (ops[j]).op with
      | false=>exact .inl rfl
      | true =>
        rcases wild_cmp h.1 hj hne (.inr hb) with q | q | q
        · rw[q] at hn;cases hn
        · exact .inr (.inl q)
        · exact .inr (.inr q.1)
    · have hcj:callOf (ops[j]).op≠none:=fun e=>by have:=k.2;unfold isCall at this;rw[e] at this;cases this
      rcases wild_cmp h.1 hj hne (.inl k.2) with q | q | q
      · rw[q] at hn;cases hn
      · exact hcj (isNew_mem q).2.2.2
      · exact hcj (isLoad_mem q.1).2.2.2
  refine⟨side i j hi hj (by omega) h2,side j i hj hi (by omega) h1,?_⟩
  rcases g.ok.pair j i hj hi hlt with hc | ⟨_,_,h⟩
  · rw[hc] at h1;cases h1
  · exact h
theorem not_touch {op:Op} (h:touches op=false):(memOf op).wB=false∧(memOf op).wT=false:=by
  unfold touches at h
  simp only[Bool.or_eq_false_iff] at h
  exact⟨h.1.1.2,h.2⟩
theorem B_comm (g:Given P ops sp ol E0 S0 base out) (hs:Shut ops L) {i j:Nat} (hi:i<ops.size) (hj:j<ops.size) (hLi:L i=false) (hLj:L j=true) (hlt:i<j) (B:Nat→Option (List SV)):(out j).fB ((out i).fB B)=(out i).fB ((out j).fB B):=by
  obtain⟨h1,h2⟩:=not_cmp g.ok hs hi hj hLi hLj hlt
  obtain⟨q1,q2,q3⟩:=quiet_pair g hi hj hlt h1 h2
  have beside:∀ i j (hi:i<ops.size) (hj:j<ops.size),j≠i→cmp ops.toList i j=false→isCall (ops[i]).op=true→(touches (ops[j]).op=false∨isNew (ops[j]).op=true∨isLoad (ops[j]).op=true)→¬ (wildAt ops j=true∧isCall (ops[j]).op=true)→∀ B,(out j).fB ((out i).fB B)=(out i).fB ((out j).fB B):=fun i j hi hj hne hn hc t1 t2 B=>by
    rcases t1 with t1 | t1 | t1
    · rcases B_form g hj t2 with h | ⟨h,_⟩
      · rw[h,h]
      · rw[(not_touch t1).1] at h;cases h
    · rcases new_form g ⟨hj,t1⟩ with h | ⟨cs,h⟩
      · rw[h,h]
      · rcases wild_form g hi hc with k | k | k
        · rw[k.1,k.1]
        · cases hb:touches (ops[j]).op with
          | true=>rw[loud_cmp k hj hne (.inr hb)] at hn;cases hn
          | false =>
            have:=(B_form g hj t2)
            rcases this with h' | ⟨h',_⟩
            · rw[h',h']
            · rw[(not_touch hb).1] at h';cases h'
        · rw[h,h,k.2.2.2.1 _ _ _ (by omega)]
    · rcases B_form g hj t2 with h | ⟨h,_⟩
      · rw[h,h]
      · rw[(isLoad_mem t1).1] at h;cases h
  by_cases li:wildAt ops i=true∧isCall (ops[i]).op=true
  · obtain⟨t1,t2⟩:=q1 li
    exact beside i j hi hj (by omega) h2 li.2 t1 t2 B
  by_cases lj:wildAt ops j=true∧isCall (ops[j]).op=true
  · obtain⟨t1,t2⟩:=q2 lj
    exact (beside j i hj hi (by omega) h1 lj.2 t1 t2 B).symm
  rcases q3 with q3 | ⟨p,hm,rfl,rfl⟩ | ⟨p,hm,hpp⟩ | ⟨_,_,⟨_,hl⟩,_⟩
  case inr.inr.inr =>
    have key:∀ B,(out i).fB B=B:=fB_id g hi (isLoad_mem hl).1 (fun _=>by unfold isCall;rw[(isLoad_mem hl).2.2.2];rfl)
    rw[key,key]
  case inr.inr.inl =>
    obtain⟨s1,s2⟩:=g.ok.olOk p hm
    have hbl:=OldT.of g.old p hm
    cases hb:refOf (E0 p.1.2) with
    | none=>rw[hb] at hbl;exact hbl.elim
    | some b =>
      rw[hb] at hbl
      have hbl:b<base:=hbl
      have key:∀ B,(out p.1.1).fB ((out p.2).fB B)=(out p.2).fB ((out p.1.1).fB B):=fun B=>by
        rcases at_form g s1 hb with h | ⟨cs,h⟩
        · rw[h,h]
        · rcases new_form g s2 with k | ⟨ds,k⟩
          · rw[k,k]
          · rw[h,k,k,h];exact upd_comm _ _ _ (by omega)
      rcases hpp with ⟨e1,e2⟩ | ⟨e1,e2⟩
      · rw[← e1, ← e2];exact key B
      · rw[← e1, ← e2];exact (key B).symm
  case inr.inl =>
    obtain⟨s1,s2⟩:=g.ok.spOk p hm
    have ap:=SepT.of g.sep p hm
    cases hb:refOf (E0 p.1.2) with
    | none=>rw[hb] at ap;exact ap.elim
    | some b =>
      cases hc:refOf (E0 p.2.2) with
      | none=>rw[hb,hc] at ap;exact ap.elim
      | some c =>
        rw[hb,hc] at ap
        rcases at_form g s1 hb with h | ⟨cs,h⟩
        · rw[h,h]
        · rcases at_form g s2 hc with k | ⟨ds,k⟩
          · rw[k,k]
          · rw[h,k,k,h];exact upd_comm _ _ _ (fun e=>ap e.symm)
  rcases B_form g hi li with h | ⟨hw,h⟩
  · rw[h,h]
  rcases B_form g hj lj with k | ⟨kw,k⟩
  · rw[k,k]
  obtain⟨oj,oi⟩:=(clash_w q3).1 kw hw
  rcases h with ⟨cs,h⟩ | h
  · rcases k with ⟨ds,k⟩ | k
    · rw[h,k,k,h];exact upd_comm _ _ _ (by omega)
    · rw[k] at oj;cases oj
  · rw[h] at oi;cases oi
theorem T_comm (g:Given P ops sp ol E0 S0 base out) (hs:Shut ops L) {i j:Nat} (hi:i<ops.size) (hj:j<ops.size) (hLi:L i=false) (hLj:L j=true) (hlt:i<j) (T:Nat→Option (Nat×Nat)):(out j).fT ((out i).fT T)=(out i).fT ((out j).fT T):=by
  obtain⟨h1,h2⟩:=not_cmp g.ok hs hi hj hLi hLj hlt
  obtain⟨q1,q2,q3⟩:=quiet_pair g hi hj hlt h1 h2
  have still:∀ j (hj:j<ops.size),(touches (ops[j]).op=false∨isNew (ops[j]).op=true∨isLoad (ops[j]).op=true)→¬ (wildAt ops j=true∧isCall (ops[j]).op=true)→∀ T,(out j).fT T=T:=fun j hj t1 t2=>by
    rcases T_form g hj t2 with h | ⟨h,_⟩
    · exact h
    · rcases t1 with t1 | t1 | t1
      · rw[(not_touch t1).2] at h;cases h
      · rw[(isNew_mem t1).2.2.1] at h;cases h
      · rw[(isLoad_mem t1).2.2.1] at h;cases h
  by_cases li:wildAt ops i=true∧isCall (ops[i]).op=true
  · obtain⟨t1,t2⟩:=q1 li
    have h:=still j hj t1 t2
    rw[h,h]
  by_cases lj:wildAt ops j=true∧isCall (ops[j]).op=true
  · obtain⟨t1,t2⟩:=q2 lj
    have h:=still i hi t1 t2
    rw[h,h]
  rcases q3 with q3 | ⟨p,hm,rfl,rfl⟩ | ⟨p,hm,hpp⟩ | ⟨_,_,⟨_,hl⟩,_⟩
  case inr.inr.inr =>
    have key:∀ T,(out i).fT T=T:=fT_id g hi (isLoad_mem hl).2.2.1 (fun _=>by unfold isCall;rw[(isLoad_mem hl).2.2.2];rfl)
    rw[key,key]
  case inr.inr.inl =>
    obtain⟨hlt1,t,ha,_⟩:=(g.ok.olOk p hm).1
    have key:∀ T,(out p.1.1).fT T=T:=fT_id g hlt1 (addr_mem ha).1 (fun _=>(addr_mem ha).2.2)
    rcases hpp with ⟨e1,e2⟩ | ⟨e1,e2⟩
    · rw[← e1,key,key]
    · rw[← e1,key,key]
  case inr.inl =>
    obtain⟨k,t,ha,_⟩:=(g.ok.spOk p hm).1
    have:=fT_id g hj (addr_mem ha).1 (fun _=>(addr_mem ha).2.2)
    rw[this,this]
  rcases T_form g hi li with h | ⟨hw,h⟩
  · rw[h,h]
  rcases T_form g hj lj with k | ⟨kw,k⟩
  · rw[k,k]
  obtain⟨oj,oi⟩:=(clash_w q3).2 kw hw
  rcases h with ⟨cs,h⟩ | h
  · rcases k with ⟨ds,k⟩ | k
    · rw[h,k,k,h];exact upd_comm _ _ _ (by omega)
    · rw[k] at oj;cases oj
  · rw[h] at oi;cases oi
theorem x_comm (g:Given P ops sp ol E0 S0 base out) (hs:Shut ops L) {i j:Nat} (hi:i<ops.size) (hj:j<ops.size) (hLi:L i=false) (hLj:L j=true) (hlt:i<j) (x:Nat):(out j).fx ((out i).fx x)=(out i).fx ((out j).fx x):=by
  obtain⟨h1,h2⟩:=not_cmp g.ok hs hi hj hLi hLj hlt
  obtain⟨q1,q2,q3⟩:=quiet_pair g hi hj hlt h1 h2
  by_cases li:wildAt ops i=true∧isCall (ops[i]).op=true
  · have:=fx_id g hj (fun h=>by
      cases hb:isCall (ops[j]).op with
      | false=>rfl
      | true=>exact absurd ⟨h,hb⟩ (q1 li).2)
    rw[this,this]
  · have:=fx_id g hi (fun h=>by
      cases hb:isCall (ops[i]).op with
      | false=>rfl
      | true=>exact absurd ⟨h,hb⟩ li)
    rw[this,this]
theorem E_comm (g:Given P ops sp ol E0 S0 base out) {i j:Nat} (hi:i<ops.size) (hj:j<ops.size) (hlt:i<j) (E:Env):stE ops out j (stE ops out i E)=stE ops out i (stE ops out j E):=by
  funext k
  rw[stE_at,stE_at,stE_at,stE_at]
  by_cases a:(ops[j]?).bind (·.dst)=some k
  · by_cases b:(ops[i]?).bind (·.dst)=some k
    · rw[Array.getElem?_eq_getElem hj] at a
      rw[Array.getElem?_eq_getElem hi] at b
      exact absurd (by simpa using b) (g.ok.dst j i hj hi hlt k (by simpa using a))
    · rw[if_pos a,if_neg b,if_pos a]
  · rw[if_neg a]
    by_cases b:(ops[i]?).bind (·.dst)=some k
    · rw[if_pos b,if_pos b]
    · rw[if_neg b,if_neg b,if_neg a]
abbrev withL (L:Nat→Bool) (i:Nat):Nat→Bool:=fun j=>L j || j == i
theorem envL_insert (g:Given P ops sp ol E0 S0 base out) {i:Nat} (hi:i<ops.size) (hLi:L i=false):envL ops out E0 (withL L i) ops.size=(envL ops out E0 L ops.size).put (ops[i]).dst (out i).s:=by
  unfold envL
  rw[foldF_insert hi hLi (fun j h1 h2 _ y=>E_comm g hi h2 h1 y)]
  unfold stE
  rw[Array.getElem?_eq_getElem hi]
theorem stL_insert (g:Given P ops sp ol E0 S0 base out) (hs:Shut ops L) {i:Nat} (hi:i<ops.size) (hLi:L i=false):stL out S0 (withL L i) ops.size=(stL out S0 L ops.size).out (out i):=by
  unfold stL St.out
  simp only
  rw[foldF_insert hi hLi (fun j h1 h2 h3 y=>B_comm g hs hi h2 hLi h3 h1 y),foldF_insert hi hLi (fun j h1 h2 h3 y=>T_comm g hs hi h2 hLi h3 h1 y),foldF_insert hi hLi (fun j h1 h2 h3 y=>x_comm g hs hi h2 hLi h3 h1 y)]
def cntL (L:Nat→Bool) (n:Nat):Nat:=foldF (fun _ x=>x+1) L n 0
theorem cntL_le (L:Nat→Bool):∀ n,cntL L n≤n
  | 0=>Nat.le_refl _
  | n+1=>by
    have:=cntL_le L n
    unfold cntL at *
    simp only[foldF]
    split<;>omega
theorem cntL_all:∀ n,n≤cntL L n→∀ j,j<n→L j=true
  | 0,_,j,hj=>by omega
  | n+1,h,j,hj=>by
    have h1:=cntL_le L n
    unfold cntL at *
    simp only[foldF] at h
    split at h
    · rename_i hn
      by_cases e:j=n
      · subst e;exact hn
      · exact cntL_all n (by unfold cntL;omega) j (by omega)
    · omega
theorem any_ok (g:Given P ops sp ol E0 S0 base out) {m0:Nat→Nat}{w0:World}{G:Gh}{w1:World}{H:Nat→Prop} (hH:∀ b,H b→b<base) {QQ:Exit→Act→World→Prop}
    (hQ:∀ G' a' w',Rel m0 w0 G' (envL ops out E0 allL ops.size) (stL out S0 allL ops.size) (fun b=>(stL out S0 allL ops.size).nx≤b∨H b) a' w'→S0.nx≤(stL out S0 allL ops.size).nx→Fut G w1 G' w'→QQ .normal a' w') :
    ∀ (fuel:Nat) (listed:Array Bool) (a:Act) (w:World) (G':Gh),listed.size=ops.size→ops.size≤fuel+cntL (fun i=>listed.getD i false) ops.size→Shut ops (fun i=>listed.getD i false) →
      S0.nx≤(stL out S0 (fun i=>listed.getD i false) ops.size).nx→base+ops.size≤(stL out S0 (fun i=>listed.getD i false) ops.size).nx →
      Rel m0 w0 G' (envL ops out E0 (fun i=>listed.getD i false) ops.size) (stL out S0 (fun i=>listed.getD i false) ops.size) (fun b=>(base≤b∧b<base+ops.size∧listed.getD (b - base) false=false)∨(stL out S0 (fun i=>listed.getD i false) ops.size).nx≤b∨H b) a w →
      Fut G w1 G' w→wpAny P .any ops QQ fuel listed a w:=by
  have done:∀ (listed:Array Bool) (a:Act) (w:World) (G':Gh),(∀ j,j<ops.size→listed.getD j false=true)→S0.nx≤(stL out S0 (fun i=>listed.getD i false) ops.size).nx →
      Rel m0 w0 G' (envL ops out E0 (fun i=>listed.getD i false) ops.size) (stL out S0 (fun i=>listed.getD i false) ops.size) (fun b=>(base≤b∧b<base+ops.size∧listed.getD (b - base) false=false)∨(stL out S0 (fun i=>listed.getD i false) ops.size).nx≤b∨H b) a w →
      Fut G w1 G' w→QQ .normal a w:=by
    intro listed a w G' hall hnx hr f
    have eE:envL ops out E0 (fun i=>listed.getD i false) ops.size=envL ops out E0 allL ops.size:=foldF_congr fun j hj=>.inr (hall j hj)
    have eS:stL out S0 (fun i=>listed.getD i false) ops.size=stL out S0 allL ops.size:=by
      unfold stL
      rw[foldF_congr (f:=fun j=>(out j).fB) (M:=allL) fun j hj=>.inr (hall j hj),foldF_congr (f:=fun j=>(out j).fT) (M:=allL) fun j hj=>.inr (hall j hj),foldF_congr (f:=fun j=>(out j).fx) (M:=allL) fun j hj=>.inr (hall j hj)]
    rw[eE,eS] at hr
    rw[eS] at hnx
    exact hQ G' a w (hr.less fun b hb=>.inr hb) hnx f
  have noReady:∀ (listed:Array Bool),listed.size=ops.size→Region.ready .any ops listed=[]→∀ j,j<ops.size→listed.getD j false=true:=by
    intro listed hsz h0 j
    induction j using Nat.strongRecOn with
    | _ j ih =>
      intro hj
      cases hb:listed.getD j false with
      | true=>rfl
      | false =>
        have:j∈Region.ready .any ops listed:=mem_ready.2 ⟨by
          simp only[Array.getD_eq_getD_getElem?] at hb ⊢
          rw[Array.getElem?_eq_getElem (by omega)] at hb ⊢
          simpa using hb,ops[j],Array.getElem?_eq_getElem hj,fun e he hbind=>by
          have hlt:=g.ok.back j hj e (by simpa using he) hbind
          exact ih e.on hlt (by omega)⟩
        rw[h0] at this;cases this
  intro fuel
  induction fuel with
  | zero =>
    intro listed a w G' hsz hcnt hs hnx hnx2 hr f
    have hall:=cntL_all ops.size (by omega:ops.size≤cntL (fun i=>listed.getD i false) ops.size)
    refine⟨?_,done listed a w G' hall hnx hr f⟩
    rw[List.eq_nil_iff_forall_not_mem]
    intro j hj
    obtain⟨h1,o,ho,_⟩:=mem_ready.1 hj
    have hjl:=(Array.getElem?_eq_some_iff.1 ho).1
    have h2:=hall j hjl
    simp only[Array.getD_eq_getD_getElem?] at h1 h2
    rw[Array.getElem?_eq_getElem (by omega)] at h1 h2
    simp at h1 h2
    rw[h1] at h2;cases h2
  | succ fuel ih =>
    intro listed a w G' hsz hcnt hs hnx hnx2 hr f
    refine⟨fun h0=>done listed a w G' (noReady listed hsz h0) hnx hr f,fun i hi=>?_⟩
    obtain⟨h1,o,ho,hpre⟩:=mem_ready.1 hi
    obtain⟨hlt,hoi⟩:=Array.getElem?_eq_some_iff.1 ho
    subst hoi
    generalize hLdef:(fun i=>listed.getD i false)=L at *
    have hLi:L i=false:=by
      rw[← hLdef]
      simp only[Array.getD_eq_getD_getElem?] at h1 ⊢
      rw[Array.getElem?_eq_getElem (by omega)] at h1 ⊢
      simpa using h1
    have hp:∀ e∈(ops[i]).after.toList,Region.binds .any e=true→L e.on=true:=fun e he hb=>by
      rw[← hLdef];exact hpre e (by simpa using he) hb
    have hL':(fun j=>(listed.setIfInBounds i true).getD j false)=withL L i:=by
      funext j
      rw[← hLdef]
      simp only[withL,Array.getD_eq_getD_getElem?,Array.getElem?_setIfInBounds]
      by_cases e:i=j
      · subst e;simp[hsz,hlt]
      · rw[if_neg e]
        have:(j == i)=false:=by simp;omega
        rw[this,Bool.or_false]
    have hs':Shut ops (withL L i):=by
      intro j hj hLj e he hb
      simp only[withL,Bool.or_eq_true,beq_iff_eq] at hLj ⊢
      rcases hLj with h | h
      · exact .inl (hs j hj h e he hb)
      · subst h;exact .inl (hp e he hb)
    have hcnt':ops.size≤fuel+cntL (withL L i) ops.size:=by
      have:cntL (withL L i) ops.size=cntL L ops.size+1:=by
        unfold cntL
        exact foldF_insert hlt hLi (fun _ _ _ _ _=>rfl)
      omega
    obtain⟨hd,hw,hhow,hskip⟩:=step_same g hs hlt hLi hp
    have hd:=dstOk_ok hd
    have eE:=envL_insert g hlt hLi
    have eS:=stL_insert g hs hlt hLi
    have ihr:=fun a w G'=>ih (listed.setIfInBounds i true) a w G' (by simpa using hsz)
    simp only[hL'] at ihr
    have hnewF:∀ b,(listed.setIfInBounds i true).getD (b - base) false=withL L i (b - base):=fun b=>congrFun hL' (b - base)
    have holdF:∀ b,listed.getD (b - base) false=L (b - base):=fun b=>congrFun hLdef (b - base)
    unfold wpOp
    rw[ho]
    simp only
    rw[wantS_ok hr hw]
    cases hb:(out i).w with
    | false =>
      rw[if_neg (by simp)]
      have e0:=hskip hb
      have eS':stL out S0 (withL L i) ops.size=stL out S0 L ops.size:=by rw[eS,e0];rfl
      have eE':envL ops out E0 (withL L i) ops.size=(envL ops out E0 L ops.size).put (ops[i]).dst (.d (.v undef)):=by rw[eE,e0]
      refine ihr _ _ G' hcnt' hs' (by rw[eS'];exact hnx) (by rw[eS'];exact hnx2) ?_ f
      rw[eE',eS']
      refine (hr.less (fun b hb=>?_)).put hd (.d (.v rfl))
      rcases hb with ⟨b1,b2,b3⟩ | hb
      · refine .inl ⟨b1,b2,?_⟩
        rw[hnewF b] at b3
        rw[holdF b]
        simp only[withL,Bool.or_eq_false_iff] at b3
        exact b3.1
      · exact .inr hb
    | true =>
      rw[if_pos rfl]
      have hop:=(hhow hb).opS
      refine .inl (hop.2 m0 w0 G' _ a w hr (.inl ⟨by omega,by omega,by rw[holdF];simpa using hLi⟩) (fun b hb=>.inr (.inl hb)) _ _ (fun G'' u w' hu hr' f'=>?_))
      have hk:=hop.1
      refine ihr _ _ G'' hcnt' hs' (by rw[eS];exact Nat.le_trans hnx hk.nx) (by rw[eS];exact Nat.le_trans hnx2 hk.nx) ?_ (f.trans f')
      rw[eE,eS]
      have hx:=hk.nx
      refine (hr'.less (fun b hb=>?_)).put (fun k hk'=>by rw[hk.n];exact hd k hk') hu
      rcases hb with ⟨b1,b2,b3⟩ | hb | hb
      · rw[hnewF b] at b3
        simp only[withL,Bool.or_eq_false_iff,beq_eq_false_iff_ne] at b3
        exact⟨.inl ⟨b1,b2,by rw[holdF b];exact b3.1⟩,by omega,by omega⟩
      · exact⟨.inr (.inl (by omega)),by omega,by omega⟩
      · have:=hH b hb
        exact⟨.inr (.inr hb),by omega,by omega⟩
theorem foldF_none {X:Type}{f:Nat→X→X}{L:Nat→Bool}:∀ {n:Nat}{x:X},(∀ j,j<n→L j=false)→foldF f L n x=x
  | 0,x,h=>rfl
  | n+1,x,h=>by
    simp only[foldF]
    rw[if_neg (by rw[h n (by omega)];simp)]
    exact foldF_none fun j hj=>h j (by omega)
theorem Tr.len {lo:Nat→Bool}:∀ {l:List Oper}{r:List Out}{i:Nat}{E:Env}{S:St}{E':Env}{S':St},Tr lo P ops base i l E S r E' S'→r.length=l.length
  | [],[],_,_,_,_,_,_=>rfl
  | o::l,ot::r,i,E,S,E',S',h=>by simp[Tr.len h.2]
  | [],_::_,_,_,_,_,_,h=>h.elim
  | _::_,[],_,_,_,_,_,h=>h.elim
theorem no_new {m0:Nat→Nat}{w0:World}{G:Gh}{E:Env}{S:St}{H:Nat→Prop}{a:Act}{w:World} (hr:Rel m0 w0 G E S (fun b=>S.nx≤b∨H b) a w) {x:Nat} (hx:S.nx≤x):S.B x=none:=by
  cases hb:S.B x with
  | none=>rfl
  | some cs =>
    exfalso
    have ho:=hr.more.ofresh x (.inl hx)
    obtain⟨B,_,_,h1,_⟩:=hr.box x cs hb ho
    rw[(hr.fresh x (.inl hx)).1] at h1;cases h1
theorem CS.draw {id:Nat}{ops:Array Oper}{E:Env}{S:St}{Q:Exit→Env→St→Prop} (sp:Spl) (ol:Old) (hok:drawOk P ops sp ol=true) (hsp:SepT sp E) (hol:OldT ol S.nx E) (h:VL (drawLo ops) P ops S.nx 0 ops.toList E (S.adv ops.size) (fun E' S'=>Q .normal E' S')):CS P (.region id ops true) E S Q:=by
  intro m0 w0 G a w H hH hr QQ hQ
  have ok:=drawOk_ok hok
  obtain⟨r,E',S',htr,hq⟩:=VL.trace h (by simp[drawLo])
  have hlen:=Tr.len htr
  simp only[Array.length_toList] at hlen
  obtain⟨h1,h2,h3⟩:=Tr.at (E0:=E) (S0:=S.adv ops.size) (out:=fun j=>r.getD j ⟨false, .d (.v undef),fun x=>x,fun x=>x,fun x=>x⟩) htr (fun k hk=>by simp) (fun k hk=>by
    have hk':k<r.length:=by rw[hlen];simpa using hk
    rw[Nat.zero_add,List.getD_eq_getElem?_getD,List.getElem?_eq_getElem hk',Option.getD_some]) rfl rfl
  simp only[Nat.zero_add,Array.length_toList] at h1 h2 h3
  have g:Given P ops sp ol E (S.adv ops.size) S.nx (fun j=>r.getD j ⟨false, .d (.v undef),fun x=>x,fun x=>x,fun x=>x⟩):=⟨ok,fun k hk=>by simpa using h1 k hk,hr.few,hsp,hol,fun q _=>no_new hr (by omega)⟩
  have hL:(fun i=>(Array.replicate ops.size false).getD i false)=fun _=>false:=by
    funext i
    simp only[Array.getD_eq_getD_getElem?,Array.getElem?_replicate]
    split<;>rfl
  have eE:envL ops (fun j=>r.getD j ⟨false, .d (.v undef),fun x=>x,fun x=>x,fun x=>x⟩) E (fun _=>false) ops.size=E:=foldF_none fun _ _=>rfl
  have eS:stL (fun j=>r.getD j ⟨false, .d (.v undef),fun x=>x,fun x=>x,fun x=>x⟩) (S.adv ops.size) (fun _=>false) ops.size=S.adv ops.size:=by
    unfold stL
    rw[foldF_none fun _ _=>rfl,foldF_none fun _ _=>rfl,foldF_none fun _ _=>rfl]
  refine wp_region_any ok.mixed ?_
  refine any_ok g (m0:=m0) (w0:=w0) (G:=G) (w1:=w) hH (fun G' a' w' hr' hnx f=>?_) ops.size (Array.replicate ops.size false) a w.drew G (by simp) (by omega) (fun i hi hL'=>?_) ?_ ?_ ?_ (fut_draw G w)
  · rw[← h2, ← h3] at hr'
    rw[← h3] at hnx
    refine hQ .normal G' E' S' a' w' hq ⟨?_,?_,?_,?_⟩ hr' f
    · rw[h3];rfl
    · rw[h3];rfl
    · rw[h3];rfl
    · simp only[St.adv] at hnx;omega
  · rw[hL] at hL';cases hL'
  · rw[hL,eS];exact Nat.le_refl _
  · rw[hL,eS];simp[St.adv]
  · rw[hL,eS,eE]
    refine (hr.draw.adv ops.size).less fun b hb=>?_
    simp only[St.adv] at hb
    rcases hb with ⟨hb,_,_⟩ | hb | hb
    · exact .inl hb
    · exact .inl (by omega)
    · exact .inr hb
end
end Go.Sh
namespace Go.Sh
open Go.RowKit (Below)
section
variable {P:Program}{E E':Env}{S S':St}
def Cnd (r:Option SV) (x y:Prop):Prop:=match r with | some (.d (.v (.bool b)))=>Br b x y | _=>False
def VC (P:Program):Code→Env→St→(Exit→Env→St→Prop)→Prop
  | .skip,E,S,Q=>Q .normal E S
  | .label _,E,S,Q=>Q .normal E S
  | .exit id,E,S,Q=>Q (.exit id) E S
  | .ret,E,S,Q=>Q .ret E S
  | .seq x y,E,S,Q=>VC P x E S (Then (fun E' S'=>VC P y E' S' Q) Q)
  | .block id c,E,S,Q=>VC P c E S (InBlock id Q)
  | .cond c x y,E,S,Q=>Cnd (evalO E c) (VC P x E S Q) (VC P y E S Q)
  | .region _ ops false,E,S,Q=>VL (fun _=>true) P ops S.nx 0 ops.toList E (S.adv ops.size) (fun E' S'=>Q .normal E' S')
  | .region _ ops true,E,S,Q=>(∃ sp ol,drawOk P ops sp ol=true∧SepT sp E∧OldT ol S.nx E)∧VL (drawLo ops) P ops S.nx 0 ops.toList E (S.adv ops.size) (fun E' S'=>Q .normal E' S')
  | c,E,S,Q=>CS P c E S Q
theorem VC.sound:∀ {c:Code}{E:Env}{S:St}{Q:Exit→Env→St→Prop},VC P c E S Q→CS P c E S Q
  | .skip,E,S,Q,h=>CS.skip h
  | .label _,E,S,Q,h=>CS.label h
  | .exit id,E,S,Q,h=>CS.exit h
  | .ret,E,S,Q,h=>CS.ret h
  | .seq x y,E,S,Q,h=>CS.seq ((VC.sound (c:=x) h).mono (fun ex E' S' q=>by
      cases ex with
      | normal=>exact VC.sound (c:=y) q
      | _=>exact q))
  | .block id c,E,S,Q,h=>CS.block (VC.sound (c:=c) h)
  | .cond c x y,E,S,Q,h=>by
    unfold VC Cnd at h
    split at h
    · rename_i b hb
      exact CS.cond hb (fun e=>VC.sound (h.1 e)) (fun e=>VC.sound (h.2 e))
    · exact h.elim
  | .region id ops false,E,S,Q,h=>by
    have:=CS.region (P:=P) (id:=id) (ops:=ops.toList) (Q:=Q) (E:=E) (S:=S) (by
      have h3:=VL.sound (P:=P) (ops:=ops) h
      simpa using h3)
    simpa using this
  | .region id ops true,E,S,Q,h=>by
    obtain⟨⟨sp,ol,h1,h2,h4⟩,h3⟩:=h
    exact CS.draw sp ol h1 h2 h4 h3
  | .loop c,E,S,Q,h=>h
  | .rangeFunc ..,E,S,Q,h=>h
  | .scope _,E,S,Q,h=>h
  | .goto _,E,S,Q,h=>h
  | .refuse _,E,S,Q,h=>h
abbrev Cd:=Inhabited (Code)
abbrev Cd.c (self:Cd):Code:=self.default
abbrev Ar:=Inhabited (Array Oper)
abbrev Ar.a (self:Ar):Array Oper:=self.default
abbrev Ls:=Inhabited (List Oper)
abbrev Ls.l (self:Ls):List Oper:=self.default
abbrev Oc:=Inhabited (Oper)
abbrev Oc.o (self:Oc):Oper:=self.default
abbrev Eh:=Inhabited (Env)
abbrev Eh.e (self:Eh):Env:=self.default
def loOf (dr:Bool) (ops:Array Oper):Nat→Bool:=match dr with | true=>drawLo ops | false=>fun _=>true
def VLt (_:Bool) (dr:Bool) (P:Program) [A:Ar] (base i:Nat) [l:Ls] (E:Env) (S:St) (Q:Env→St→Prop):Prop:=VL (loOf dr A.a) P A.a base i l.l E S Q
def VCt (_:Bool) (P:Program) [c:Cd] (E:Env) (S:St) (Q:Exit→Env→St→Prop):Prop:=VC P c.c E S Q
def LoopT (P:Program) [c:Cd] (E:Env) (S:St) (Q:Exit→Env→St→Prop):Prop:=CS P (.loop c.c) E S Q
def DrawT (P:Program) [A:Ar] (E:Env) (n:Nat):Prop:=∃ sp ol,drawOk P A.a sp ol=true∧SepT sp E∧OldT ol n E
theorem DrawT.mk {P:Program}{A:Ar}{E:Env}{n:Nat} (h:drawOk P A.a [] []=true):@DrawT P A E n:=⟨[],[],h,trivial,trivial⟩
theorem DrawT.sp {P:Program}{A:Ar}{E:Env}{n:Nat} (sp:Spl) (h:drawOk P A.a sp []=true) (k:SepT sp E):@DrawT P A E n:=⟨sp,[],h,k,trivial⟩
theorem DrawT.ol {P:Program}{A:Ar}{E:Env}{n:Nat} (ol:Old) (h:drawOk P A.a [] ol=true) (k:OldT ol n E):@DrawT P A E n:=⟨[],ol,h,trivial,k⟩
@[simp] theorem OldT_nil {n:Nat}{E:Env}:OldT [] n E=True:=rfl
@[simp] theorem OldT_cons {E:Env} (x:Nat×Nat) (y n:Nat) (l:Old):OldT ((x,y)::l) n E=(below n (refOf (E x.2))∧OldT l n E):=rfl
@[simp] theorem below_some (n b:Nat):below n (some b)=(b<n):=rfl
@[simp] theorem SepT_nil {E:Env}:SepT [] E=True:=rfl
@[simp] theorem SepT_cons {E:Env} (x y:Nat×Nat) (l:Spl):SepT ((x,y)::l) E=(apart (refOf (E x.2)) (refOf (E y.2))∧SepT l E):=rfl
@[simp] theorem refOf_some (b off:Nat):refOf (some (.op b off))=some b:=rfl
@[simp] theorem apart_some (b c:Nat):apart (some b) (some c)=(b≠c):=rfl
def LoudT (dr:Bool) [A:Ar] (base i:Nat) [E:Eh]:Lo:=loAt (loOf dr A.a) A.a base i E.e
def txtLo:Lo:=⟨true,False,0,0⟩
def BrT (b:Bool) (x y:Bool→Prop):Prop:=Br b (x true) (y true)
@[simp] theorem BrT_true (x y:Bool→Prop):BrT true x y=x true:=by simp[BrT,Br]
@[simp] theorem BrT_false (x y:Bool→Prop):BrT false x y=y true:=by simp[BrT,Br]
@[simp] theorem BrT_not (b:Bool) (x y:Bool→Prop):BrT (!b) x y=BrT b y x:=by cases b<;>simp
theorem BrT.mk {b:Bool}{x y:Bool→Prop} (h:b=true→x true) (k:b=false→y true):BrT b x y:=⟨h,k⟩
theorem BrT.dec {p:Prop} [Decidable p] {x y:Bool→Prop} (h:p→x true) (k:¬ p→y true):BrT (decide p) x y:=⟨fun e=>h (of_decide_eq_true e),fun e=>k (of_decide_eq_false e)⟩
theorem BrT.yes {p:Prop} [Decidable p] {x y:Bool→Prop} (hp:p) (h:x true):BrT (decide p) x y:=.dec (fun _=>h) (fun n=>absurd hp n)
theorem BrT.no {p:Prop} [Decidable p] {x y:Bool→Prop} (hp:¬ p) (h:y true):BrT (decide p) x y:=.dec (fun n=>absurd n hp) (fun _=>h)
def CallT (lo:Lo) (P:Program) (g:FuncId) (ss:List SV) (S:St) (K:Bool→SV→St→Prop):Prop:=Callv lo P g ss S (K true)
theorem CallT.p {lo:Lo}{g:FuncId}{ss:List SV}{K:Bool→SV→St→Prop}{ds:List D}{r:D}{gl:Nat→Option D} (h:PCall P gl g ds r) (hg:S.gl=gl) (hd:toDs ss=some ds) (k:K true (.d r) S):CallT lo P g ss S K:=.inl ⟨ds,r,hd,by rw[hg];exact h,k⟩
theorem CallT.l {lo:Lo}{g:FuncId}{ss:List SV}{K:Bool→SV→St→Prop}{r:SV}{S':St} (h:LCall P g ss S r S') (hl:lo.loud=true) (k:K true r S'):CallT lo P g ss S K:=.inr (.inl ⟨hl,r,S',h,k⟩)
theorem CallT.own {A:Ar}{base i:Nat}{Eh:Eh}{g:FuncId}{ss:List SV}{K:Bool→SV→St→Prop}{r:SV}{fB:(Nat→Option (List SV))→(Nat→Option (List SV))}{m:Nat} (l:Old) (hf:freeAt A.a i=true) (hl:oldOf A.a i=l) (ho:OldT l base Eh.e) (h:OwnK P g ss S base (base+A.a.size) r fB m) (k:K true r { S with B:=fB S.B,nx:=m }):CallT (@LoudT true A base i Eh) P g ss S K:=by
  refine .inr (.inr ⟨⟨?_,?_,?_⟩,r,fB,m,h,k⟩)
  · show drawLo A.a A.a.size=false
    unfold drawLo
    rw[if_neg (Nat.lt_irrefl _),if_pos rfl]
  · show drawLo A.a (A.a.size+1+i)=true
    unfold drawLo
    rw[if_neg (by omega),if_neg (by omega),show A.a.size+1+i - (A.a.size+1)=i by omega]
    exact hf
  · show OldT (oldOf A.a i) base Eh.e
    rw[hl];exact ho
theorem CallT.p0 {lo:Lo}{g:FuncId}{ss:List SV}{K:Bool→SV→St→Prop}{ds:List D}{r:D}{gl:Nat→Option D} (h:PCall P gl g ds r) (hg:S.gl=gl) (hd:toDs ss=some ds) (k:K true (.d r) S):CallT lo P g ss S K:=.p h hg hd k
def InvT (P:Program) (t:TypeId) (y:D) (name:String) (ss:List SV) (S:St) (K:Bool→SV→Prop):Prop:=Invk P t y name ss S (K true)
theorem InvT.p {t:TypeId}{y:D}{name:String}{ss:List SV}{K:Bool→SV→Prop}{g:FuncId}{ds:List D}{r:D}{gl:Nat→Option D} (h:PCall P gl g (y::ds) r) (hg:S.gl=gl) (hm:methOf P t name=some g) (hd:toDs ss=some ds) (k:K true (.d r)):InvT P t y name ss S K:=⟨g,ds,r,hm,hd,by rw[hg];exact h,k⟩
def FnT (r:Option SV) (K:Bool→FuncId→List SV→List SV→Prop):Prop:=FnK r (K true)
@[simp] theorem FnT_dfn (g:FuncId) (xs ys:List D) (K:Bool→FuncId→List SV→List SV→Prop):FnT (some (.d (.fn (.func g) xs ys))) K=K true g (xs.map .d) (ys.map .d):=(rfl)
def TxtT (dr:Bool) [A:Ar]:Bool:=loOf dr A.a A.a.size
def TxtL (dr:Bool) [A:Ar]:Lo:=⟨loOf dr A.a A.a.size,False,0,0⟩
@[simp] theorem TxtL_text [A:Ar]:TxtL false=txtLo:=(rfl)
@[simp] theorem TxtT_text [A:Ar]:TxtT false=true:=(rfl)
def HidK (K:Bool→SV→Eff→Prop):SV→Eff→Prop:=K true
@[simp] theorem HidK_app (K:Bool→SV→Eff→Prop) (s:SV) (e:Eff):HidK K s e=K true s e:=(rfl)
def OpT (r:Option (SV×Eff)) (K:Bool→SV→Eff→Prop):Prop:=Op1 r (K true)
@[simp] theorem OpT_some (s:SV) (e:Eff) (K:Bool→SV→Eff→Prop):OpT (some (s,e)) K=K true s e:=(rfl)
@[simp] theorem OpT_only (c:Prop) [Decidable c] (s:SV) (e:Eff) (K:Bool→SV→Eff→Prop):OpT (onlyIf c (s,e)) K=(c∧K true s e):=by
  unfold onlyIf
  by_cases h:c<;>simp[h,OpT,Op1]
def ArgT (r:Option (List SV)) (K:Bool→List SV→Prop):Prop:=ArgK r (K true)
@[simp] theorem ArgT_some (ds:List SV) (K:Bool→List SV→Prop):ArgT (some ds) K=K true ds:=(rfl)
def RecT (r:Option SV) (K:Bool→TypeId→D→Prop):Prop:=RecK r (K true)
@[simp] theorem RecT_some (t:TypeId) (y:D) (K:Bool→TypeId→D→Prop):RecT (some (.d (.ifc t y))) K=K true t y:=(rfl)
def WantT (r:Option Bool) (x y:Bool→Prop):Prop:=Want r (x true) (y true)
@[simp] theorem WantT_some (b:Bool) (x y:Bool→Prop):WantT (some b) x y=BrT b x y:=(rfl)
def CndT (r:Option SV) (x y:Bool→Prop):Prop:=Cnd r (x true) (y true)
@[simp] theorem CndT_some (b:Bool) (x y:Bool→Prop):CndT (some (.d (.v (.bool b)))) x y=BrT b x y:=(rfl)
def ThenT (N:Bool→Env→St→Prop) (Q:Exit→Env→St→Prop):Exit→Env→St→Prop:=Then (N true) Q
@[simp] theorem ThenT_normal (N:Bool→Env→St→Prop) (Q:Exit→Env→St→Prop):ThenT N Q .normal E S=N true E S:=(rfl)
@[simp] theorem ThenT_exit (N:Bool→Env→St→Prop) (Q:Exit→Env→St→Prop) (i:Nat):ThenT N Q (.exit i) E S=Q (.exit i) E S:=(rfl)
@[simp] theorem ThenT_ret (N:Bool→Env→St→Prop) (Q:Exit→Env→St→Prop):ThenT N Q .ret E S=Q .ret E S:=(rfl)
def RegT (Q:Exit→Env→St→Prop):Env→St→Prop:=fun E S=>Q .normal E S
@[simp] theorem RegT_app (Q:Exit→Env→St→Prop):RegT Q E S=Q .normal E S:=(rfl)
@[simp] theorem InBlock_normal (id:Nat) (Q:Exit→Env→St→Prop):InBlock id Q .normal E S=Q .normal E S:=(rfl)
@[simp] theorem InBlock_ret (id:Nat) (Q:Exit→Env→St→Prop):InBlock id Q .ret E S=Q .ret E S:=(rfl)
@[simp] theorem InBlock_exit (id:Nat) (Q:Exit→Env→St→Prop) (i:Nat):InBlock id Q (.exit i) E S=if i=id then Q .normal E S else Q (.exit i) E S:=(rfl)
def StepT (_:Bool) (dr:Bool) (P:Program) [A:Ar] (base i:Nat) [o:Oc] [l:Ls] (E:Env) (S:St) (Q:Env→St→Prop):Option CallK→Prop
  | some (.fn g xs)=>ArgT (argsS E xs) (fun t ss=>CallT (@LoudT dr A base i ⟨E⟩) P g ss S (fun t r S'=>@VLt t dr P A base (i+1) l (E.put o.o.dst r) S' Q))
  | some (.inv x name xs)=>RecT (evalO E x) (fun t ty y=>ArgT (argsS E xs) (fun t ss=>InvT P ty y name ss S (fun t r=>@VLt t dr P A base (i+1) l (E.put o.o.dst r) S Q)))
  | some (.dyn x xs)=>FnT (evalO E x) (fun t g fs cs=>ArgT (argsS E xs) (fun t ss=>CallT (@TxtL dr A) P g (fs++ss++cs) S (fun t r S'=>@VLt t dr P A base (i+1) l (E.put o.o.dst r) S' Q)))
  | none=>OpT (evalOp P E S (base+i) o.o) (fun t s e=>@VLt t dr P A base (i+1) l (E.put o.o.dst s) (S.app (base+i) e) Q)∨(@TxtT dr A=true∧evalX P E S (base+i) o.o (HidK (fun t s e=>@VLt t dr P A base (i+1) l (E.put o.o.dst s) (S.app (base+i) e) Q)))
def SeeT (t:Bool) (dr:Bool) (P:Program) [A:Ar] (base i:Nat) [o:Oc] [l:Ls] (E:Env) (S:St) (Q:Env→St→Prop):Prop:=@StepT t dr P A base i o l E S Q (callOf o.o.op)
@[simp] theorem CallT_text {A:Ar}{base i:Nat}{Eh:Eh}{g:FuncId}{ss:List SV}{K:Bool→SV→St→Prop}:CallT (@LoudT false A base i Eh) P g ss S K=CallT txtLo P g ss S K:=by
  unfold CallT Callv
  refine propext ⟨fun h=>?_,fun h=>?_⟩
  · rcases h with h | h | ⟨⟨h,_⟩,_⟩
    · exact .inl h
    · exact .inr (.inl ⟨rfl,h.2⟩)
    · cases h
  · rcases h with h | h | ⟨h,_⟩
    · exact .inl h
    · exact .inr (.inl ⟨rfl,h.2⟩)
    · exact h.elim
@[simp] theorem VLt_nil {dr:Bool}{A:Ar}{base i:Nat}{Q:Env→St→Prop}:@VLt true dr P A base i ⟨[]⟩ E S Q=Q E S:=(rfl)
@[simp] theorem VLt_cons {dr:Bool}{A:Ar}{base i:Nat}{d:Option Nat}{op:Op}{ty:TypeId}{p:String}{af:Array Edge}{l:List Oper}{Q:Env→St→Prop}:@VLt true dr P A base i ⟨⟨d,op,ty,p,af,none⟩::l⟩ E S Q =
    (dstOk d S.n=true∧@SeeT true dr P A base i ⟨⟨d,op,ty,p,af,none⟩⟩ ⟨l⟩ E S Q):=by
  show VL (loOf dr A.a) P A.a base i (⟨d,op,ty,p,af,none⟩::l) E S Q=_
  rw[VL]
  have:wantS A.a E ⟨d,op,ty,p,af,none⟩=some true:=rfl
  rw[this]
  simp only[Want,Br,true_imp_iff,reduceCtorEq,false_imp_iff,and_true]
  unfold SeeT StepT
  cases callOf op with
  | none=>rfl
  | some k=>cases k<;>rfl
def wantG (want:Bool):Option SV→Option Bool
  | some (.d (.v (.bool b)))=>some (b == want)
  | some (.d (.v (.tuple _)))=>some false
  | _=>none
@[simp] theorem wantG_bool (want b:Bool):wantG want (some (.d (.v (.bool b))))=some (b == want):=(rfl)
@[simp] theorem wantG_undef (want:Bool):wantG want (some (.d (.v undef)))=some false:=(rfl)
def GrdT [A:Ar] (j:Nat):Option Nat:=(A.a[j]?).bind (·.dst)
@[simp] theorem GrdT_mk (l:List Oper) (j:Nat):@GrdT ⟨⟨l⟩⟩ j=(l[j]?).bind (·.dst):=by
  show ((⟨l⟩:Array Oper)[j]?).bind (·.dst)=_
  rw[List.getElem?_toArray]
def wantD (E:Env) (want:Bool):Option Nat→Option Bool
  | some d=>wantG want (evalO E (.tmp d))
  | none=>none
@[simp] theorem wantD_some (E:Env) (want:Bool) (d:Nat):wantD E want (some d)=wantG want (evalO E (.tmp d)):=(rfl)
@[simp] theorem VLt_consG {dr:Bool}{A:Ar}{base i:Nat}{d:Option Nat}{op:Op}{ty:TypeId}{p:String}{af:Array Edge}{l:List Oper}{Q:Env→St→Prop}{j:Nat}{want:Bool}:@VLt true dr P A base i ⟨⟨d,op,ty,p,af,some (j,want)⟩::l⟩ E S Q =
    (dstOk d S.n=true∧WantT (wantD E want (@GrdT A j)) (fun t=>@SeeT t dr P A base i ⟨⟨d,op,ty,p,af,some (j,want)⟩⟩ ⟨l⟩ E S Q) (fun t=>@VLt t dr P A base (i+1) ⟨l⟩ (E.put d (.d (.v undef))) S Q)):=by
  show VL (loOf dr A.a) P A.a base i (⟨d,op,ty,p,af,some (j,want)⟩::l) E S Q=_
  rw[VL]
  have:wantS A.a E ⟨d,op,ty,p,af,some (j,want)⟩=wantD E want (@GrdT A j):=by
    unfold wantS wantD wantG GrdT
    rfl
  rw[this]
  unfold WantT SeeT StepT
  cases callOf op with
  | none=>rfl
  | some k=>cases k<;>rfl
@[simp] theorem SeeT_fn {dr:Bool}{A:Ar}{base i:Nat}{d:Option Nat}{ty:TypeId}{p:String}{af:Array Edge}{gd:Option (Nat×Bool)}{l:List Oper}{Q:Env→St→Prop}{g:FuncId}{xs:Array Operand}{ts:Array TypeId}:@SeeT true dr P A base i ⟨⟨d, .call { callee:=.value (.func g),args:=xs,argTypes:=ts },ty,p,af,gd⟩⟩ ⟨l⟩ E S Q =
    ArgT (argsS E xs.toList) (fun t ss=>CallT (@LoudT dr A base i ⟨E⟩) P g ss S (fun t r S'=>@VLt t dr P A base (i+1) ⟨l⟩ (E.put d r) S' Q)):=rfl
@[simp] theorem SeeT_inv {dr:Bool}{A:Ar}{base i:Nat}{d:Option Nat}{ty:TypeId}{p:String}{af:Array Edge}{gd:Option (Nat×Bool)}{l:List Oper}{Q:Env→St→Prop}{x:Operand}{name:String}{xs:Array Operand}{ts:Array TypeId}:@SeeT true dr P A base i ⟨⟨d, .call { callee:=.invoke x name,args:=xs,argTypes:=ts },ty,p,af,gd⟩⟩ ⟨l⟩ E S Q =
    RecT (evalO E x) (fun t ty y=>ArgT (argsS E xs.toList) (fun t ss=>InvT P ty y name ss S (fun t r=>@VLt t dr P A base (i+1) ⟨l⟩ (E.put d r) S Q))):=rfl
@[simp] theorem SeeT_dyn {dr:Bool}{A:Ar}{base i:Nat}{d:Option Nat}{ty:TypeId}{p:String}{af:Array Edge}{gd:Option (Nat×Bool)}{l:List Oper}{Q:Env→St→Prop}{x:Nat}{xs:Array Operand}{ts:Array TypeId}:@SeeT true dr P A base i ⟨⟨d, .call { callee:=.value (.tmp x),args:=xs,argTypes:=ts },ty,p,af,gd⟩⟩ ⟨l⟩ E S Q =
    FnT (evalO E (.tmp x)) (fun t g fs cs=>ArgT (argsS E xs.toList) (fun t ss=>CallT (@TxtL dr A) P g (fs++ss++cs) S (fun t r S'=>@VLt t dr P A base (i+1) ⟨l⟩ (E.put d r) S' Q))):=rfl
def isOp:Op→Bool
  | .call { callee:=.builtin _, .. }=>true
  | .call _=>false
  | _=>true
theorem isOp_callOf {op:Op} (h:isOp op=true):callOf op=none:=by
  unfold callOf
  split
  · cases h
  · cases h
  · cases h
  · rfl
def isTxt:Op→Bool
  | .makeMap .. | .buildSlice .. | .lookup .. | .mapUpdate .. | .mapEntry .. | .entryStore .. | .range .. | .next .. | .entry ..=>true
  | .call { callee:=.builtin .len, .. }=>true
  | .call { callee:=.builtin .copy, .. }=>true
  | _=>false
theorem evalX_no {id:Nat}{o:Oper}{K:SV→Eff→Prop} (h:isTxt o.op=false):evalX P E S id o K=False:=by
  unfold evalX
  split
  all_goals first
    | rfl
    | (rename_i ho;rw[ho] at h;cases h)
    | skip
  rename_i c ho
  obtain⟨callee,args,tys⟩:=c
  rw[ho] at h
  simp only
  split
  · simp[isTxt] at h
  · simp[isTxt] at h
  · rfl
theorem SeeT_x_ {dr:Bool}{A:Ar}{base i:Nat}{o:Oper}{l:List Oper}{Q:Env→St→Prop} (h:isOp o.op=true):@SeeT true dr P A base i ⟨o⟩ ⟨l⟩ E S Q =
    (OpT (evalOp P E S (base+i) o) (fun t s e=>@VLt t dr P A base (i+1) ⟨l⟩ (E.put o.dst s) (S.app (base+i) e) Q)∨(@TxtT dr A=true∧evalX P E S (base+i) o (HidK (fun t s e=>@VLt t dr P A base (i+1) ⟨l⟩ (E.put o.dst s) (S.app (base+i) e) Q)))):=by
  unfold SeeT
  rw[show callOf (Oc.o (self:=⟨o⟩)).op=none from isOp_callOf h]
  rfl
theorem SeeT_op_ {dr:Bool}{A:Ar}{base i:Nat}{o:Oper}{l:List Oper}{Q:Env→St→Prop} (h:(isOp o.op && !isTxt o.op)=true):@SeeT true dr P A base i ⟨o⟩ ⟨l⟩ E S Q =
    OpT (evalOp P E S (base+i) o) (fun t s e=>@VLt t dr P A base (i+1) ⟨l⟩ (E.put o.dst s) (S.app (base+i) e) Q):=by
  simp only[Bool.and_eq_true,Bool.not_eq_true'] at h
  rw[SeeT_x_ h.1,evalX_no h.2]
  simp
@[simp] theorem VCt_skip {Q:Exit→Env→St→Prop}:@VCt true P ⟨.skip⟩ E S Q=Q .normal E S:=(rfl)
@[simp] theorem VCt_exit {id:Nat}{Q:Exit→Env→St→Prop}:@VCt true P ⟨.exit id⟩ E S Q=Q (.exit id) E S:=(rfl)
@[simp] theorem VCt_ret {Q:Exit→Env→St→Prop}:@VCt true P ⟨.ret⟩ E S Q=Q .ret E S:=(rfl)
@[simp] theorem VCt_seq {x y:Code}{Q:Exit→Env→St→Prop}:@VCt true P ⟨.seq x y⟩ E S Q = @VCt true P ⟨x⟩ E S (ThenT (fun t E' S'=>@VCt t P ⟨y⟩ E' S' Q) Q):=(rfl)
@[simp] theorem VCt_block {id:Nat}{c:Code}{Q:Exit→Env→St→Prop}:@VCt true P ⟨.block id c⟩ E S Q = @VCt true P ⟨c⟩ E S (InBlock id Q):=(rfl)
@[simp] theorem VCt_cond {c:Operand}{x y:Code}{Q:Exit→Env→St→Prop}:@VCt true P ⟨.cond c x y⟩ E S Q=CndT (evalO E c) (fun t=>@VCt t P ⟨x⟩ E S Q) (fun t=>@VCt t P ⟨y⟩ E S Q):=(rfl)
@[simp] theorem VCt_region {id:Nat}{l:List Oper}{Q:Exit→Env→St→Prop}:@VCt true P ⟨.region id ⟨l⟩ false⟩ E S Q = @VLt true false P ⟨⟨l⟩⟩ S.nx 0 ⟨l⟩ E (S.adv l.length) (RegT Q):=(rfl)
@[simp] theorem VCt_draw {id:Nat}{l:List Oper}{Q:Exit→Env→St→Prop}:@VCt true P ⟨.region id ⟨l⟩ true⟩ E S Q=(@DrawT P ⟨⟨l⟩⟩ E S.nx∧@VLt true true P ⟨⟨l⟩⟩ S.nx 0 ⟨l⟩ E (S.adv l.length) (RegT Q)):=(rfl)
@[simp] theorem VCt_loop {c:Code}{Q:Exit→Env→St→Prop}:@VCt true P ⟨.loop c⟩ E S Q = @LoopT P ⟨c⟩ E S Q:=(rfl)
theorem CS.of {c:Code}{Q:Exit→Env→St→Prop} (h:@VCt true P ⟨c⟩ E S Q):CS P c E S Q:=VC.sound h
theorem LoopT.round {c:Code}{Q:Exit→Env→St→Prop} (I:Env→St→Prop) (μ:Env→St→Nat) (h0:I E S)
    (round:∀ E1 S1,Keeps S S1→I E1 S1→@VCt true P ⟨c⟩ E1 S1 (ThenT (fun _ E' S'=>I E' S'∧μ E' S'<μ E1 S1) Q)):@LoopT P ⟨c⟩ E S Q :=
  CS.loop I μ h0 (fun E1 S1 hk hI=>CS.of (round E1 S1 hk hI))
def RoundsV (P:Program) (c:Code):Nat→Env→St→(Exit→Env→St→Prop)→Prop
  | 0,_,_,_=>False
  | n+1,E,S,Q=>VC P c E S (Then (fun E' S'=>RoundsV P c n E' S' Q) Q)
theorem CS.rounds {c:Code}{Q:Exit→Env→St→Prop}:∀ {n:Nat}{E:Env}{S:St},RoundsV P c n E S Q→CS P (.loop c) E S Q:=by
  intro n E S h m0 w0 G a w H hH hr QQ hQ
  refine wp_loop_rounds n ?_
  induction n generalizing E S G a w with
  | zero=>exact h.elim
  | succ n ih =>
    rw[rounds_succ]
    refine VC.sound h m0 w0 G a w H hH hr _ (fun ex G' E' S' a' w' q hn hr' f=>?_)
    cases ex with
    | normal=>exact ih q G' a' w' (fun b hb=>Nat.lt_of_lt_of_le (hH b hb) hn.nx) hr' (fun ex G'' E'' S'' a'' w'' q' hn' hr'' f'=>hQ ex G'' E'' S'' a'' w'' q' (hn.trans hn') hr'' (f.trans f'))
    | _=>exact hQ _ G' E' S' a' w' q hn hr' f
def RndT (P:Program) (n:Nat) [c:Cd] (E:Env) (S:St) (Q:Exit→Env→St→Prop):Prop:=RoundsV P c.c n E S Q
theorem RndT_succ {n:Nat}{c:Code}{Q:Exit→Env→St→Prop}:@RndT P (n+1) ⟨c⟩ E S Q = @VCt true P ⟨c⟩ E S (ThenT (fun _ E' S'=>@RndT P n ⟨c⟩ E' S' Q) Q):=(rfl)
theorem LoopT.rounds {c:Code}{Q:Exit→Env→St→Prop} (n:Nat) (h:@RndT P n ⟨c⟩ E S Q):@LoopT P ⟨c⟩ E S Q:=CS.rounds h
def Fin (P:Program) (rs:List ResultVar) (r:D):Exit→Env→St→Prop:=fun ex E S=>(ex=.normal∨ex=.ret)∧∃ s,resS P E S rs=some s∧frz S.B 16 s=some r
@[simp] theorem Fin_ret {rs:List ResultVar}{r:D}:Fin P rs r .ret E S=((resS P E S rs).bind (frz S.B 16)=some r):=by
  simp only[Fin,reduceCtorEq,or_true,true_and,Option.bind_eq_some_iff]
theorem PCall.by_ {gl : Nat → Option D} {md : List Nat} {f : FuncId} {fn : Func} {c : Code} {args : List D} {r : D} (hf : P.funcs[f]? = some fn) (hb : fn.body = some c) (hname : (fn.name == "runtime.NumGoroutine") = false) {n : Nat} (hn : fn.ntmps = n) (hle : args.length ≤ n) (hfew : n ≤ globalsAt) {rs : List ResultVar} (hrs : fn.results.toList = rs)
    (h:@VCt true P ⟨c⟩ (startE gl (args.map .d)) (startS gl md n) (Fin P rs r)):PCall P gl f args r:=PCall.of (md:=md) hf hb hname hn hle hfew (by rw[hrs];exact VC.sound h)
def FinL (P:Program) (rs:List ResultVar) (r:SV) (S':St):Exit→Env→St→Prop:=fun ex E S=>(ex=.normal∨ex=.ret)∧resS P E S rs=some r∧Less S' S
theorem LCall.by_ {md : List Nat} {f : FuncId} {fn : Func} {c : Code} {ss : List SV} {r : SV} (hk : Keeps S S') (hf : P.funcs[f]? = some fn) (hb : fn.body = some c) (hname : (fn.name == "runtime.NumGoroutine") = false) {n : Nat} (hn : fn.ntmps = n) (hle : ss.length ≤ n) (hfew : n ≤ globalsAt) {rs : List ResultVar} (hrs : fn.results.toList = rs)
    (h:@VCt true P ⟨c⟩ (startE S.gl ss) { S with n:=n,md:=md } (FinL P rs r S')):LCall P f ss S r S':=LCall.of (md:=md) hf hb hname hn hle hfew hk (by rw[hrs];exact VC.sound h)
mutual
def SV.lt (n:Nat):SV→Bool
  | .d _=>true
  | .fl _ _=>true
  | .tp i _ _ _=>decide (i<n)
  | .op b _=>decide (b<n)
  | .os b _ _=>decide (b<n)
  | .ls cs _=>ltS n cs
  | .ag cs=>ltS n cs
  | .tu cs=>ltS n cs
  | .fc _ x=>SV.lt n x
  | .fn _ xs ys=>ltS n xs&&ltS n ys
  | .mv b=>decide (b<n)
  | .iv b=>decide (b<n)
  | .sk b _ _=>decide (b<n)
  | .mc _ vs=>ltS n vs
  | .ic _ _ _=>true
def ltS (n:Nat):List SV→Bool
  | []=>true
  | s::r=>SV.lt n s&&ltS n r
end
theorem ltS_get {n:Nat}:∀ {cs:List SV},ltS n cs=true↔∀ j (h:j<cs.length),SV.lt n cs[j]=true
  | []=>by simp[ltS]
  | s::r=>by
    simp only[ltS,Bool.and_eq_true,ltS_get (cs:=r)]
    constructor
    · rintro ⟨h1,h2⟩ j hj
      cases j with
      | zero=>exact h1
      | succ j=>exact h2 j (by simpa using hj)
    · intro h
      exact⟨h 0 (by simp),fun j hj=>h (j+1) (by simpa using hj)⟩
def Gh.cutAt (G:Gh) (n:Nat):Gh:={ G with box:=fun b=>if b<n then G.box b else none,tip:=fun i=>if i<n then G.tip i else none,obj:=fun b=>if b<n then G.obj b else none }
theorem VR.lt {G:Gh}{w:World}{n:Nat} (hb:∀ b,n≤b→G.box b=none) (ht:∀ b,n≤b→G.tip b=none) (ho:∀ b,n≤b→G.obj b=none) {s:SV}{u:Value} (h:VR G w s u):SV.lt n s=true:=by
  induction h with
  | d h=>rfl
  | fl h hc=>rfl
  | tp h ht' hn he =>
    rename_i i q cs n' B o c B' v k cap
    rcases Nat.lt_or_ge i n with h1 | h1
    · simp[SV.lt,h1]
    · rw[ht i h1] at ht';cases ht'
  | op h =>
    rename_i b off B
    rcases Nat.lt_or_ge b n with h1 | h1
    · simp[SV.lt,h1]
    · rw[hb b h1] at h;cases h
  | os h hn =>
    rename_i b off n' c B
    rcases Nat.lt_or_ge b n with h1 | h1
    · simp[SV.lt,h1]
    · rw[hb b h1] at h;cases h
  | ls us hn hc hk hv ih=>simp only[SV.lt];exact ltS_get.2 fun j hj=>ih j hj
  | ag hl hk hv ih=>simp only[SV.lt];exact ltS_get.2 fun j hj=>ih j hj (by omega)
  | tu hl hv ih=>simp only[SV.lt];exact ltS_get.2 fun j hj=>ih j hj (by omega)
  | fc h ih=>exact ih
  | fn hl hm hv hu ih1 ih2 =>
    simp only[SV.lt,Bool.and_eq_true]
    exact⟨ltS_get.2 fun j hj=>ih1 j hj (by omega),ltS_get.2 fun j hj=>ih2 j hj (by omega)⟩
  | mv h =>
    rename_i b B
    rcases Nat.lt_or_ge b n with h1 | h1
    · simp[SV.lt,h1]
    · rw[ho b h1] at h;cases h
  | iv h =>
    rename_i b B
    rcases Nat.lt_or_ge b n with h1 | h1
    · simp[SV.lt,h1]
    · rw[ho b h1] at h;cases h
  | sk h hn hb' hr =>
    rename_i b n' sz c B us T fr
    rcases Nat.lt_or_ge b n with h1 | h1
    · simp[SV.lt,h1]
    · rw[hb b h1] at h;cases h
theorem VR.cutAt {G:Gh}{w:World}{n:Nat}{s:SV}{u:Value} (h:VR G w s u):SV.lt n s=true→VR (G.cutAt n) w s u:=by
  induction h with
  | d h=>exact fun _=>.d h
  | fl h hc=>exact fun _=>.fl h hc
  | tp h ht hn he =>
    intro hl
    simp only[SV.lt,decide_eq_true_eq] at hl
    exact .tp h (by simp only[Gh.cutAt,if_pos hl];exact ht) hn he
  | op h =>
    intro hl
    simp only[SV.lt,decide_eq_true_eq] at hl
    exact .op (by simp only[Gh.cutAt,if_pos hl];exact h)
  | os h hn =>
    intro hl
    simp only[SV.lt,decide_eq_true_eq] at hl
    exact .os (by simp only[Gh.cutAt,if_pos hl];exact h) hn
  | ls us hn hc hk hv ih=>exact fun h=>.ls us hn hc hk fun j hj=>ih j hj (ltS_get.1 (by simpa only [SV.lt] using h) j hj)
  | ag hl hk hv ih=>exact fun h=>.ag hl hk fun j hj hj'=>ih j hj hj' (ltS_get.1 (by simpa only [SV.lt] using h) j hj)
  | tu hl hv ih=>exact fun h=>.tu hl fun j hj hj'=>ih j hj hj' (ltS_get.1 (by simpa only [SV.lt] using h) j hj)
  | fc h ih=>exact fun h=>.fc (ih h)
  | fn hl hm hv hu ih1 ih2 =>
    intro h
    simp only[SV.lt,Bool.and_eq_true] at h
    exact .fn hl hm (fun j hj hj'=>ih1 j hj hj' (ltS_get.1 h.1 j hj)) (fun j hj hj'=>ih2 j hj hj' (ltS_get.1 h.2 j hj))
  | mv h =>
    intro hl
    simp only[SV.lt,decide_eq_true_eq] at hl
    exact .mv (by simp only[Gh.cutAt,if_pos hl];exact h)
  | iv h =>
    intro hl
    simp only[SV.lt,decide_eq_true_eq] at hl
    exact .iv (by simp only[Gh.cutAt,if_pos hl];exact h)
  | sk h hn hb hr =>
    intro hl
    simp only[SV.lt,decide_eq_true_eq] at hl
    exact .sk (by simp only[Gh.cutAt,if_pos hl];exact h) hn hb hr
theorem ObjR.cutAt {G:Gh}{w:World}{n B:Nat}{cs:List SV} (h:ObjR G w cs B) (hl:ltS n cs=true):ObjR (G.cutAt n) w cs B:=by
  cases h with
  | mp es hb h1 h2 hborn hk hv =>
    simp only[ltS,SV.lt,Bool.and_true] at hl
    exact .mp es hb h1 h2 hborn hk fun j hj hj'=>(hv j hj hj').cutAt (ltS_get.1 hl j hj)
  | it hb hm=>exact .it hb hm
theorem ObjR.lt {G:Gh}{w:World}{n B:Nat}{cs:List SV} (hb:∀ b,n≤b→G.box b=none) (ht:∀ b,n≤b→G.tip b=none) (ho:∀ b,n≤b→G.obj b=none) (h:ObjR G w cs B):ltS n cs=true:=by
  cases h with
  | mp es hb' h1 h2 hborn hk hv =>
    simp only[ltS,SV.lt,Bool.and_true]
    exact ltS_get.2 fun j hj=>(hv j hj (by omega)).lt hb ht ho
  | it hb' hm=>simp[ltS,SV.lt]
theorem ObjR.single {G:Gh}{w:World}{B:Nat}{cs l:List SV} (h:ObjR G w (cs++l) B) (hne:cs≠[]):l=[]:=by
  have:(cs++l).length=1:=by
    generalize cs++l=c at h
    cases h<;>rfl
  have h0:0<cs.length:=List.length_pos_iff.2 hne
  simp only[List.length_append] at this
  exact List.length_eq_zero_iff.1 (by omega)
structure Elder (S S' S1:St):Prop where
  n:S'.n=S.n
  md:S'.md=S.md
  gl:S'.gl=S.gl
  nx:S.nx≤S'.nx
  B:∀ b cs,S'.B b=some cs→b<S'.nx∧(∃ l,S1.B b=some (cs++l))∧(ltS S'.nx cs=true∨S.B b=some cs)
  T:∀ i p,S'.T i=some p→i<S'.nx∧S1.T i=some p
  E:∀ b,S'.B b=some []→S1.B b=some []
def ResOf (o:Option SV) (r:SV):Prop:=o=some r∨∃ s x,o=some s∧s.toD=some x∧r=.d x
theorem ResOf.get {o:Option SV}{r:SV} (h:ResOf o r):∃ s,o=some s∧∀ (G:Gh) (w:World) (u:Value),VR G w s u→VR G w r u:=by
  rcases h with h | ⟨s,x,h,hx,rfl⟩
  · exact⟨r,h,fun _ _ _ k=>k⟩
  · exact⟨s,h,fun _ _ _ k=>.d (k.toD hx)⟩
theorem LCall.elder {f : FuncId} {fn : Func} {c : Code} {ss : List SV} {r : SV} {md : List Nat} (hf : P.funcs[f]? = some fn) (hb : fn.body = some c) (hname : (fn.name == "runtime.NumGoroutine") = false) {n : Nat} (hn : fn.ntmps = n) (hle : ss.length ≤ n) (hfew : n ≤ globalsAt)
    (hk:Keeps S S') (hr0:SV.lt S'.nx r=true)
    (h:CS P c (startE S.gl ss) { S with n:=n,md:=md } (fun ex E1 S1=>(ex=.normal∨ex=.ret)∧ResOf (resS P E1 S1 fn.results.toList) r∧Elder S S' S1)):LCall P f ss S r S':=by
  refine⟨⟨fn,hf,hname,by rw[hb];rfl⟩,hk,fun m0 w0 G E F a w vals hr hF hl hv=>calls_of_wp hf hb ?_⟩
  have hsz:(vals.toArray++Array.replicate (fn.ntmps - vals.toArray.size) undef).size=n:=by simp;omega
  have hstart:=start_slots (gl:=S.gl) (G:=G) (w:=w) (ss:=ss) (vals:=vals) (n:=n) (ntmps:=n) hl hle hv hr.glob (Array.replicate (fn.ntmps - vals.toArray.size) undef)
  refine h m0 w0 G { tmps:=vals.toArray++Array.replicate (fn.ntmps - vals.toArray.size) undef,defers:=[] } w (fun b=>F b∧b<S.nx) (fun _ hb=>hb.2)
    ⟨hstart,hsz,hfew,hr.box,hr.inj,hr.tip,hr.tinj,hr.tlt,hr.tbox,fun b hb=>hr.fresh b (hb.elim (hF b) (fun h=>h.1)),hr.new,hr.low,hr.below,rfl,hr.glob,hr.more.keep (Fut.refl _ _) (.refl _) (fun _ _ _ h _=>h) rfl (fun _ _ _=>rfl) rfl (fun b hb=>hb.elim (hF b) (fun h=>h.1)) rfl⟩ _ ?_
  rintro ex G' E' S1 a' w' ⟨hex,hs,he⟩ hn' hr' f
  obtain⟨s0,hs,hs0⟩:=hs.get
  obtain⟨u,hu,hv0⟩:=resS_ok hr' hs
  have hv':=hs0 _ _ _ hv0
  have hnx:S.nx≤S1.nx:=hn'.nx
  have hle':S.nx≤S'.nx:=hk.nx
  have hbox:∀ b,S'.nx≤b→G.box b=none:=fun b hb=>(hr.fresh b (hF b (Nat.le_trans hle' hb))).1
  have htip:∀ b,S'.nx≤b→G.tip b=none:=fun b hb=>(hr.fresh b (hF b (Nat.le_trans hle' hb))).2
  have hobj:∀ b,S'.nx≤b→G.obj b=none:=fun b hb=>hr.more.ofresh b (hF b (Nat.le_trans hle' hb))
  have fc:Fut G w (G'.cutAt S'.nx) w':=by
    refine⟨fun b B hb=>?_,fun i B v k cap hi=>?_,f.mark,f.cell,fun b B hb=>?_,f.row,f.map⟩
    · have hlt:b<S'.nx:=by
        rcases Nat.lt_or_ge b S'.nx with h1 | h1
        · exact h1
        · rw[hbox b h1] at hb;cases hb
      simp only[Gh.cutAt,if_pos hlt];exact f.box b B hb
    · have hlt:i<S'.nx:=by
        rcases Nat.lt_or_ge i S'.nx with h1 | h1
        · exact h1
        · rw[htip i h1] at hi;cases hi
      simp only[Gh.cutAt,if_pos hlt];exact f.tip i B v k cap hi
    · have hlt:b<S'.nx:=by
        rcases Nat.lt_or_ge b S'.nx with h1 | h1
        · exact h1
        · rw[hobj b h1] at hb;cases hb
      simp only[Gh.cutAt,if_pos hlt];exact f.obj b B hb
  have cutT:∀ {i p},(G'.cutAt S'.nx).tip i=some p→G'.tip i=some p:=fun {i p} h=>by
    simp only[Gh.cutAt] at h;split at h
    · exact h
    · cases h
  have cutB:∀ {b p},(G'.cutAt S'.nx).box b=some p→G'.box b=some p:=fun {b p} h=>by
    simp only[Gh.cutAt] at h;split at h
    · exact h
    · cases h
  have cutO:∀ {b p},(G'.cutAt S'.nx).obj b=some p→G'.obj b=some p:=fun {b p} h=>by
    simp only[Gh.cutAt] at h;split at h
    · exact h
    · cases h
  have ne:∀ b,S'.B b≠none→S1.B b≠none:=fun b hb e=>by
    obtain⟨cs,hcs⟩:=Option.ne_none_iff_exists'.1 hb
    obtain⟨l,hl⟩:=(he.B b cs hcs).2.1
    rw[hl] at e;cases e
  have fin:a'.defers=[]∧∃ v,(results fn a'.tmps).run P w'=.ok v w'∧(∃ u G'',Ending.returned v=Ending.returned u∧VR G'' w' r u∧Rel m0 w0 G'' E S' (fun b=>F b∧¬ (S.nx≤b∧b<S'.nx)) a w'∧Fut G w G'' w'):=by
    refine⟨hr'.defers,u,hu,u,G'.cutAt S'.nx,rfl,hv'.cutAt hr0,⟨fun j s hj=>(hr.env j s hj).fut fc,by rw[hk.n];exact hr.size,by rw[hk.n];exact hr.few,fun b cs hb ho=>?_,fun b b' B hb hb' g g'=>hr'.inj b b' B (ne b hb) (ne b' hb') (cutB g) (cutB g'),
      fun i k sz hi=>?_,fun i i' B v k c v' k' c' g g'=>hr'.tinj i i' B v k c v' k' c' (cutT g) (cutT g'),fun i B v k c g=>hr'.tlt i B v k c (cutT g),fun i b B v k c hi hb g=>hr'.tbox i b B v k c (cutT hi) (ne b hb) (cutB g),fun b hb=>?_,hr'.new,hr'.low,hr'.below,hr.defers,by rw[hk.gl];exact fun g x hg=>hr'.glob g x (by rw[hn'.gl];exact hg),⟨fun b cs B hb ho=>?_,fun b b' B hb hb' g g'=>hr'.more.oinj b b' B (ne b hb) (ne b' hb') (cutO g) (cutO g'),fun b hb=>?_,fun hg=>hr'.more.clean (by rw[hn'.gl];rw[hk.gl] at hg;exact hg)⟩⟩,fc⟩
    · obtain⟨hlt,⟨l,h1⟩,h2⟩:=he.B b cs hb
      have ho':G'.obj b=none:=by simpa only [Gh.cutAt,if_pos hlt] using ho
      obtain⟨B,us,T,g1,g2,g3,g4,g5,gu0,g6⟩:=hr'.box b _ h1 ho'
      have g6:∀ j (h:j<cs.length) (h':j<us.size),(cs[j]).cell=true∧VR G' w' cs[j] us[j]:=fun j h h'=>by
        have:=g6 j (by simp;omega) h'
        rwa [List.getElem_append_left h] at this
      refine⟨B,us,T,by simp only[Gh.cutAt,if_pos hlt];exact g1,g2,by simp at g3;omega,g4,g5,gu0,fun j hj hj'=>⟨(g6 j hj hj').1,(g6 j hj hj').2.cutAt ?_⟩⟩
      rcases h2 with h2 | h2
      · exact ltS_get.1 h2 j hj
      · have ho0:G.obj b=none:=by
          cases hx:G.obj b with
          | none=>rfl
          | some X=>rw[f.obj b X hx] at ho';cases ho'
        obtain⟨B0,us0,T0,k1,k2,k3,k4,k5,ku0,k6⟩:=hr.box b cs h2 ho0
        exact (k6 j hj (by omega)).2.lt hbox htip hobj
    · obtain⟨hlt,h1⟩:=he.T i _ hi
      obtain⟨B,v,us,T,cap,fr,g1,g2⟩:=hr'.tip i k sz h1
      exact⟨B,v,us,T,cap,fr,by simp only[Gh.cutAt,if_pos hlt];exact g1,g2⟩
    · rcases Nat.lt_or_ge b S.nx with h1 | h1
      · have h2:b<S'.nx:=by omega
        simp only[Gh.cutAt,if_pos h2];exact hr'.fresh b (.inr ⟨hb.1,h1⟩)
      · have:¬ b<S'.nx:=by have:=hb.2;omega
        simp only[Gh.cutAt,if_neg this,and_self]
    · obtain⟨hlt,⟨l,h1⟩,h2⟩:=he.B b cs hb
      have ho':=cutO ho
      obtain⟨m1,m2,m3,m4⟩:=hr'.more.obj b _ B h1 ho'
      have hcs:cs≠[]:=fun e=>by
        subst e
        have:=he.E b hb
        obtain⟨_,_,_,m5⟩:=hr'.more.obj b _ B this ho'
        cases m5
      have hl:=m4.single hcs
      subst hl
      rw[List.append_nil] at m4
      refine⟨by simp only[Gh.cutAt,if_pos hlt];exact m1,m2,m3,m4.cutAt ?_⟩
      rcases h2 with h2 | h2
      · exact h2
      · cases hx:G.obj b with
        | none =>
          obtain⟨B0,us0,T0,k1,k2,k3,k4,k5,ku0,k6⟩:=hr.box b cs h2 hx
          exfalso
          cases m4 with
          | mp es _ _ _ _ _ _=>have:=(k6 0 (by simp) (by simp at k3;omega)).2;cases this
          | it _ _=>have:=(k6 0 (by simp) (by simp at k3;omega)).2;cases this
        | some X =>
          obtain⟨_,_,_,k4⟩:=hr.more.obj b cs X h2 hx
          exact k4.lt hbox htip hobj
    · rcases Nat.lt_or_ge b S.nx with h1 | h1
      · have h2:b<S'.nx:=by omega
        simp only[Gh.cutAt,if_pos h2];exact hr'.more.ofresh b (.inr ⟨hb.1,h1⟩)
      · have:¬ b<S'.nx:=by have:=hb.2;omega
        simp only[Gh.cutAt,if_neg this]
  rcases hex with rfl | rfl
  · exact fin
  · exact fin
def FinE (P:Program) (rs:List ResultVar) (r:SV) (S S':St):Exit→Env→St→Prop:=fun ex E S1=>(ex=.normal∨ex=.ret)∧resS P E S1 rs=some r∧Elder S S' S1
@[simp] theorem FinE_ret {rs:List ResultVar}{r:SV}{S0:St}:FinE P rs r S0 S' .ret E S=(resS P E S rs=some r∧Elder S0 S' S):=by
  simp only[FinE,reduceCtorEq,or_true,true_and]
theorem LCall.byE {md : List Nat} {f : FuncId} {fn : Func} {c : Code} {ss : List SV} {r : SV} (hk : Keeps S S') (hr0 : SV.lt S'.nx r = true) (hf : P.funcs[f]? = some fn) (hb : fn.body = some c) (hname : (fn.name == "runtime.NumGoroutine") = false) {n : Nat} (hn : fn.ntmps = n) (hle : ss.length ≤ n) (hfew : n ≤ globalsAt) {rs : List ResultVar} (hrs : fn.results.toList = rs)
    (h:@VCt true P ⟨c⟩ (startE S.gl ss) { S with n:=n,md:=md } (FinE P rs r S S')):LCall P f ss S r S':=LCall.elder (md:=md) hf hb hname hn hle hfew hk hr0 (by rw[hrs];exact (VC.sound h).mono fun _ _ _ ⟨h1,h2,h3⟩=>⟨h1, .inl h2,h3⟩)
def FinD (P:Program) (rs:List ResultVar) (r:D) (S S':St):Exit→Env→St→Prop:=fun ex E S1=>(ex=.normal∨ex=.ret)∧(∃ s,resS P E S1 rs=some s∧s.toD=some r)∧Elder S S' S1
@[simp] theorem FinD_ret {rs:List ResultVar}{r:D}{S0:St}:FinD P rs r S0 S' .ret E S=((∃ s,resS P E S rs=some s∧s.toD=some r)∧Elder S0 S' S):=by
  simp only[FinD,reduceCtorEq,or_true,true_and]
theorem LCall.byD {md : List Nat} {f : FuncId} {fn : Func} {c : Code} {ss : List SV} {r : D} (hk : Keeps S S') (hf : P.funcs[f]? = some fn) (hb : fn.body = some c) (hname : (fn.name == "runtime.NumGoroutine") = false) {n : Nat} (hn : fn.ntmps = n) (hle : ss.length ≤ n) (hfew : n ≤ globalsAt) {rs : List ResultVar} (hrs : fn.results.toList = rs)
    (h:@VCt true P ⟨c⟩ (startE S.gl ss) { S with n:=n,md:=md } (FinD P rs r S S')):LCall P f ss S (.d r) S':=LCall.elder (md:=md) hf hb hname hn hle hfew hk rfl (by rw[hrs];exact (VC.sound h).mono fun _ _ _ ⟨h1,⟨s,h2,h4⟩,h3⟩=>⟨h1, .inr ⟨s,r,h2,h4,rfl⟩,h3⟩)
@[simp] theorem upd_app {α:Type} (f:Nat→Option α) (k:Nat) (x:α) (i:Nat):upd f k x i=if i=k then some x else f i:=(rfl)
@[simp] theorem adv_n (k:Nat):(S.adv k).n=S.n:=(rfl)
@[simp] theorem adv_B (k:Nat):(S.adv k).B=S.B:=(rfl)
@[simp] theorem adv_T (k:Nat):(S.adv k).T=S.T:=(rfl)
@[simp] theorem adv_nx (k:Nat):(S.adv k).nx=S.nx+k:=(rfl)
@[simp] theorem adv_md (k:Nat):(S.adv k).md=S.md:=(rfl)
@[simp] theorem adv_gl (k:Nat):(S.adv k).gl=S.gl:=(rfl)
@[simp] theorem new_n (id:Nat) (cs:List SV):(S.new id cs).n=S.n:=(rfl)
@[simp] theorem new_B (id:Nat) (cs:List SV):(S.new id cs).B=upd S.B id cs:=(rfl)
@[simp] theorem new_T (id:Nat) (cs:List SV):(S.new id cs).T=S.T:=(rfl)
@[simp] theorem new_nx (id:Nat) (cs:List SV):(S.new id cs).nx=S.nx:=(rfl)
@[simp] theorem new_md (id:Nat) (cs:List SV):(S.new id cs).md=S.md:=(rfl)
@[simp] theorem new_gl (id:Nat) (cs:List SV):(S.new id cs).gl=S.gl:=(rfl)
@[simp] theorem set_n (id:Nat) (cs:List SV):(S.set id cs).n=S.n:=(rfl)
@[simp] theorem set_B (id:Nat) (cs:List SV):(S.set id cs).B=upd S.B id cs:=(rfl)
@[simp] theorem set_T (id:Nat) (cs:List SV):(S.set id cs).T=S.T:=(rfl)
@[simp] theorem set_nx (id:Nat) (cs:List SV):(S.set id cs).nx=S.nx:=(rfl)
@[simp] theorem set_md (id:Nat) (cs:List SV):(S.set id cs).md=S.md:=(rfl)
@[simp] theorem set_gl (id:Nat) (cs:List SV):(S.set id cs).gl=S.gl:=(rfl)
@[simp] theorem tipTo_n (i k sz:Nat):(S.tipTo i k sz).n=S.n:=(rfl)
@[simp] theorem tipTo_B (i k sz:Nat):(S.tipTo i k sz).B=S.B:=(rfl)
@[simp] theorem tipTo_T (i k sz:Nat):(S.tipTo i k sz).T=upd S.T i (k,sz):=(rfl)
@[simp] theorem tipTo_nx (i k sz:Nat):(S.tipTo i k sz).nx=S.nx:=(rfl)
@[simp] theorem tipTo_md (i k sz:Nat):(S.tipTo i k sz).md=S.md:=(rfl)
@[simp] theorem tipTo_gl (i k sz:Nat):(S.tipTo i k sz).gl=S.gl:=(rfl)
@[simp] theorem mov_n (b id:Nat) (cs:List SV):(S.mov b id cs).n=S.n:=(rfl)
@[simp] theorem mov_B (b id:Nat) (cs:List SV):(S.mov b id cs).B=upd (fun x=>if x=b then none else S.B x) id cs:=(rfl)
@[simp] theorem mov_nx (b id:Nat) (cs:List SV):(S.mov b id cs).nx=S.nx:=(rfl)
@[simp] theorem mov_gl (b id:Nat) (cs:List SV):(S.mov b id cs).gl=S.gl:=(rfl)
@[simp] theorem app_mov (id b:Nat) (cs:List SV):S.app id (.mov b cs)=S.mov b id cs:=(rfl)
@[simp] theorem app_no (id:Nat):S.app id .no=S:=(rfl)
@[simp] theorem app_new (id:Nat) (cs:List SV):S.app id (.new cs)=S.new id cs:=(rfl)
@[simp] theorem app_set (id b:Nat) (cs:List SV):S.app id (.set b cs)=S.set b cs:=(rfl)
@[simp] theorem app_tip (id i k sz:Nat):S.app id (.tip i k sz)=S.tipTo i k sz:=(rfl)
@[simp] theorem startS_n (gl:Nat→Option D) (md:List Nat) (n:Nat):(startS gl md n).n=n:=(rfl)
@[simp] theorem startS_B (gl:Nat→Option D) (md:List Nat) (n:Nat):(startS gl md n).B=fun _=>none:=(rfl)
@[simp] theorem startS_T (gl:Nat→Option D) (md:List Nat) (n:Nat):(startS gl md n).T=fun _=>none:=(rfl)
@[simp] theorem startS_nx (gl:Nat→Option D) (md:List Nat) (n:Nat):(startS gl md n).nx=0:=(rfl)
@[simp] theorem startS_md (gl:Nat→Option D) (md:List Nat) (n:Nat):(startS gl md n).md=md:=(rfl)
@[simp] theorem startS_gl (gl:Nat→Option D) (md:List Nat) (n:Nat):(startS gl md n).gl=gl:=(rfl)
@[simp] theorem put_some (E:Env) (k:Nat) (s:SV):Env.put E (some k) s=upd E k s:=(rfl)
@[simp] theorem put_none (E:Env) (s:SV):Env.put E none s=E:=(rfl)
@[simp] theorem startE_app (gl:Nat→Option D) (args:List SV) (k:Nat):startE gl args k=if k<1048576 then args[k]? else (gl (k - 1048576)).map .d:=(rfl)
@[simp] theorem evalO_tmp (E:Env) (t:Nat):evalO E (.tmp t)=if t<1048576 then E t else none:=(rfl)
@[simp] theorem evalO_const (E:Env) (c:Value):evalO E (.const c)=ofConst c:=(rfl)
@[simp] theorem evalO_func (E:Env) (f:FuncId):evalO E (.func f)=some (.fn (.func f) [] []):=(rfl)
@[simp] theorem ofConst_bool (b:Bool):ofConst (.bool b)=some (.d (.v (.bool b))):=(rfl)
@[simp] theorem ofConst_int (k:IntKind) (n:Int):ofConst (.int k n)=some (.d (.v (.int k n))):=(rfl)
@[simp] theorem ofConst_string (s:ByteArray):ofConst (.string s)=some (.d (.v (.string s))):=(rfl)
@[simp] theorem ofConst_nilS:ofConst (.slice none 0 0)=some (.fl [] 0):=(rfl)
@[simp] theorem ofConst_nilI:ofConst .nilIface=some (.d (.v .nilIface)):=(rfl)
@[simp] theorem ofConst_nilP:ofConst (.pointer none)=some (.d (.v (.pointer none))):=(rfl)
@[simp] theorem ofConst_nilF:ofConst .nilFunc=some (.d (.v .nilFunc)):=(rfl)
@[simp] theorem ofConst_nilM:ofConst (.map none)=some (.d (.v (.map none))):=(rfl)
@[simp] theorem dstOk_some (k n:Nat):dstOk (some k) n=decide (k<n):=(rfl)
@[simp] theorem dstOk_none (n:Nat):dstOk none n=true:=(rfl)
section
variable {id:Nat}{d:Option Nat}{ty:TypeId}{p:String}{af:Array Edge}{g:Option (Nat×Bool)}{dr:Bool}{AA:Ar}{bb ii:Nat}{ll:List Oper}{QQ:Env→St→Prop}
@[simp] theorem SeeT_move (x:Operand):@SeeT true dr P AA bb ii ⟨⟨d, .move x,ty,p,af,g⟩⟩ ⟨ll⟩ E S QQ=OpT ((evalO E x).map fun s=>(s, .no)) (fun t s e=>@VLt t dr P AA bb (ii+1) ⟨ll⟩ (E.put d s) (S.app (bb+ii) e) QQ):=SeeT_op_ rfl
@[simp] theorem SeeT_assign (x:Operand):@SeeT true dr P AA bb ii ⟨⟨d, .assign x,ty,p,af,g⟩⟩ ⟨ll⟩ E S QQ=OpT ((evalO E x).map fun s=>(s, .no)) (fun t s e=>@VLt t dr P AA bb (ii+1) ⟨ll⟩ (E.put d s) (S.app (bb+ii) e) QQ):=SeeT_op_ rfl
def pick3:Option SV→Option SV→Option SV→Option (SV×Eff)
  | some (.d (.v (.bool b))),some s,some t=>some (if b=true then s else t, .no)
  | _,_,_=>none
@[simp] theorem pick3_some (b:Bool) (s t:SV):pick3 (some (.d (.v (.bool b)))) (some s) (some t)=some (if b=true then s else t, .no):=(rfl)
@[simp] theorem SeeT_pick (c x y:Operand):@SeeT true dr P AA bb ii ⟨⟨d, .pick c x y,ty,p,af,g⟩⟩ ⟨ll⟩ E S QQ=OpT (pick3 (evalO E c) (evalO E x) (evalO E y)) (fun t s e=>@VLt t dr P AA bb (ii+1) ⟨ll⟩ (E.put d s) (S.app (bb+ii) e) QQ):=SeeT_op_ rfl
@[simp] theorem SeeT_alloc (T:TypeId):@SeeT true dr P AA bb ii ⟨⟨d, .alloc T,ty,p,af,g⟩⟩ ⟨ll⟩ E S QQ=OpT ((zeroCellsOf P T).map fun cs=>(.op (bb+ii) 0, .new cs)) (fun t s e=>@VLt t dr P AA bb (ii+1) ⟨ll⟩ (E.put d s) (S.app (bb+ii) e) QQ):=SeeT_op_ rfl
def boxE (id:Nat):Option SV→Option (SV×Eff)
  | some s=>if s.one=true then some (.op id 0, .new s.cells) else none
  | none=>none
@[simp] theorem boxE_some (s:SV):boxE id (some s)=if s.one=true then some (.op id 0, .new s.cells) else none:=(rfl)
@[simp] theorem SeeT_box (T:TypeId) (x:Operand):@SeeT true dr P AA bb ii ⟨⟨d, .box T x,ty,p,af,g⟩⟩ ⟨ll⟩ E S QQ=OpT (boxE (bb+ii) (evalO E x)) (fun t s e=>@VLt t dr P AA bb (ii+1) ⟨ll⟩ (E.put d s) (S.app (bb+ii) e) QQ):=SeeT_op_ rfl
def buildE (P:Program) (T:TypeId):Option (List SV)→Option (List (Nat×List SV))→Bool→Option (SV×Eff)
  | some zs,some l,true=>(fillL (placeOf P T) zs l).map fun cs=>(.ag cs, .no)
  | _,_,_=>none
@[simp] theorem buildE_some (T:TypeId) (zs:List SV) (l:List (Nat×List SV)):buildE P T (some zs) (some l) true=(fillL (placeOf P T) zs l).map fun cs=>(.ag cs, .no):=(rfl)
@[simp] theorem SeeT_build (T:TypeId) (ps:Array (Nat×Operand)):@SeeT true dr P AA bb ii ⟨⟨d, .build T ps,ty,p,af,g⟩⟩ ⟨ll⟩ E S QQ=OpT (buildE P T (zeroCellsOf P T) (partsS E ps.toList) (sized P T)) (fun t s e=>@VLt t dr P AA bb (ii+1) ⟨ll⟩ (E.put d s) (S.app (bb+ii) e) QQ):=SeeT_op_ rfl
def buildSliceE (n:Nat) (mk:Option (List SV×Nat×Nat)) (pv:Option (List (Nat×List SV))):Option (List D×Nat)→Option (List (Nat×List D))→Option (SV×Eff)
  | some (zs,sz),some l=>if n*sz≤16777216 then (fillL (fun i=>some (i*sz,sz)) ((List.range (n*sz)).map fun j=>zs.getD (j % sz) default) l).map fun cs=>(.fl cs n, .no) else none
  | _,_=>(buildV n mk pv).map fun p=>(.ls p.1 n, .no)
@[simp] theorem buildV_some (n:Nat) (zs:List SV) (sz by_:Nat) (l:List (Nat×List SV)):buildV n (some (zs,sz,by_)) (some l)=if n*sz≤16777216 then (fillL (fun i=>some (i*sz,sz)) ((List.range (n*sz)).map fun j=>zs.getD (j % sz) (.d (.v undef))) l).map fun cs=>(cs,sz) else none:=(rfl)
@[simp] theorem buildSliceE_some (n:Nat) (mk:Option (List SV×Nat×Nat)) (pv:Option (List (Nat×List SV))) (zs:List D) (sz:Nat) (l:List (Nat×List D)):buildSliceE n mk pv (some (zs,sz)) (some l)=if n*sz≤16777216 then (fillL (fun i=>some (i*sz,sz)) ((List.range (n*sz)).map fun j=>zs.getD (j % sz) default) l).map fun cs=>(.fl cs n, .no) else none:=(rfl)
def rowC2 (c2:Bool) (n:Nat) (mk:Option (List SV×Nat×Nat)) (pv:Option (List (Nat×List SV))) (zs:Option (List D×Nat)) (l:Option (List (Nat×List D))):Option (SV×Eff) :=
  match c2 with | true=>(buildV n mk pv).map fun p=>(.ls p.1 n, .no) | false=>buildSliceE n mk pv zs l
@[simp] theorem rowC2_true (n:Nat) (mk:Option (List SV×Nat×Nat)) (pv:Option (List (Nat×List SV))) (zs:Option (List D×Nat)) (l:Option (List (Nat×List D))):rowC2 true n mk pv zs l=(buildV n mk pv).map fun p=>(.ls p.1 n, .no):=(rfl)
@[simp] theorem rowC2_false (n:Nat) (mk:Option (List SV×Nat×Nat)) (pv:Option (List (Nat×List SV))) (zs:Option (List D×Nat)) (l:Option (List (Nat×List D))):rowC2 false n mk pv zs l=buildSliceE n mk pv zs l:=(rfl)
def RowT (c c2:Bool) (id n:Nat) (dr:Bool) [A:Ar] (K:Bool→SV→Eff→Prop) (mk:Option (List SV×Nat×Nat)) (pv:Option (List (Nat×List SV))) (zs:Option (List D×Nat)) (l:Option (List (Nat×List D))):Prop :=
  match c with | true=>@TxtT dr A=true∧rowXX c2 id n (HidK K) mk pv zs l | false=>OpT (rowC2 c2 n mk pv zs l) K
@[simp] theorem RowT_false (c2:Bool) (id n:Nat) (A:Ar) (K:Bool→SV→Eff→Prop) (mk:Option (List SV×Nat×Nat)) (pv:Option (List (Nat×List SV))) (zs:Option (List D×Nat)) (l:Option (List (Nat×List D))):@RowT false c2 id n dr A K mk pv zs l=OpT (rowC2 c2 n mk pv zs l) K:=(rfl)
@[simp] theorem RowT_trueV (id n:Nat) (A:Ar) (K:Bool→SV→Eff→Prop) (zs:List SV) (sz by_:Nat) (l:List (Nat×List SV)) (z:Option (List D×Nat)) (y:Option (List (Nat×List D))):@RowT true true id n false A K (some (zs,sz,by_)) (some l) z y=(n*sz≤16777216∧∃ cs,fillL (fun i=>some (i*sz,sz)) ((List.range (n*sz)).map fun j=>zs.getD (j % sz) (.d (.v undef))) l=some cs∧n*sz≤cs.length∧K true (.sk id n sz) (.new cs)):=by
  show (@TxtT false A=true∧_)=_
  rw[TxtT_text]
  simp only[true_and]
  rfl
@[simp] theorem RowT_true (id n:Nat) (A:Ar) (K:Bool→SV→Eff→Prop) (mk:Option (List SV×Nat×Nat)) (pv:Option (List (Nat×List SV))) (zs:List D) (sz:Nat) (l:List (Nat×List D)):@RowT true false id n false A K mk pv (some (zs,sz)) (some l)=(n*sz≤16777216∧∃ cs,fillL (fun i=>some (i*sz,sz)) ((List.range (n*sz)).map fun j=>zs.getD (j % sz) default) l=some cs∧n*sz≤cs.length∧K true (.sk id n sz) (.new (cs.map .d))):=by
  show (@TxtT false A=true∧_)=_
  rw[TxtT_text]
  simp only[true_and]
  rfl
theorem evalOp_buildSlice {id:Nat}{d:Option Nat}{T:TypeId}{n:Nat}{ps:Array (Nat×Operand)}{ty:TypeId}{p:String}{af:Array Edge}{g:Option (Nat×Bool)} :
    evalOp P E S id ⟨d, .buildSlice T n ps,ty,p,af,g⟩=if (d.any fun d=>S.md.contains d)=false∧(d.any fun d=>S.md.contains (d+1000000))=true then (buildV n (makeOf P T) (partsS E ps.toList)).map fun p=>(.ls p.1 n, .no) else match zerosOf P T,partsD E ps.toList with
    | some (zs,sz),some l=>if n*sz≤16777216 then (fillL (fun i=>some (i*sz,sz)) ((List.range (n*sz)).map fun j=>zs.getD (j % sz) default) l).bind (rowE S.md d n) else none
    | _,_=>(buildV n (makeOf P T) (partsS E ps.toList)).bind (rowEL S.md d n):=(rfl)
@[simp] theorem SeeT_buildSlice (T n:Nat) (ps:Array (Nat×Operand)):@SeeT true dr P AA bb ii ⟨⟨d, .buildSlice T n ps,ty,p,af,g⟩⟩ ⟨ll⟩ E S QQ = @RowT (d.any fun d=>S.md.contains d) (d.any fun d=>S.md.contains (d+1000000)) (bb+ii) n dr AA (fun t s e=>@VLt t dr P AA bb (ii+1) ⟨ll⟩ (E.put d s) (S.app (bb+ii) e) QQ) (makeOf P T) (partsS E ps.toList) (zerosOf P T) (partsD E ps.toList):=by
  rw[SeeT_x_ rfl,evalOp_buildSlice]
  have e4:∀ md:List Nat,(buildV n (makeOf P T) (partsS E ps.toList)).bind (rowEL md d n)=if (d.any fun d=>md.contains d)=true then none else (buildV n (makeOf P T) (partsS E ps.toList)).map fun p=>(.ls p.1 n, .no):=fun md=>by
    cases buildV n (makeOf P T) (partsS E ps.toList) with
    | none=>split<;>rfl
    | some p=>show rowEL md d n p=_;unfold rowEL;split<;>rfl
  cases h:(d.any fun d=>S.md.contains d) with
  | false =>
    have e1:∀ K,evalX P E S (bb+ii) ⟨d, .buildSlice T n ps,ty,p,af,g⟩ K=False:=fun K=>by
      show ((d.any fun d=>S.md.contains d)=true∧_)=_
      rw[h];simp
    rw[e1,and_false,or_false,RowT_false]
    cases h2:(d.any fun d=>S.md.contains (d+1000000)) with
    | true=>rw[if_pos ⟨rfl,rfl⟩];rfl
    | false =>
      rw[if_neg (fun hh=>by cases hh.2),e4,if_neg (by rw[h];simp)]
      have e3:rowE S.md d n=fun cs=>some (.fl cs n, .no):=by
        funext cs
        unfold rowE
        rw[if_neg (by rw[h];simp)]
      rw[e3,rowC2_false]
      unfold buildSliceE
      rcases zerosOf P T with _ | ⟨zs,sz⟩<;>rcases partsD E ps.toList with _ | l
      · rfl
      · rfl
      · rfl
      · simp only
        split
        · generalize fillL _ _ _=r
          cases r<;>rfl
        · rfl
  | true =>
    have e2:(match zerosOf P T,partsD E ps.toList with
        | some (zs,sz),some l=>if n*sz≤16777216 then (fillL (fun i=>some (i*sz,sz)) ((List.range (n*sz)).map fun j=>zs.getD (j % sz) default) l).bind (rowE S.md d n) else none
        | _,_=>(buildV n (makeOf P T) (partsS E ps.toList)).bind (rowEL S.md d n))=none:=by
      have e3:rowE S.md d n=fun cs=>none:=by
        funext cs
        unfold rowE
        rw[if_pos h]
      rw[e3,e4,if_pos h]
      rcases zerosOf P T with _ | ⟨zs,sz⟩<;>rcases partsD E ps.toList with _ | l
      · rfl
      · rfl
      · rfl
      · simp only
        split
        · generalize fillL _ _ _=r
          cases r<;>rfl
        · rfl
    rw[if_neg (fun hh=>by cases hh.1),e2]
    show (False∨(@TxtT dr AA=true∧((d.any fun d=>S.md.contains d)=true∧rowXX _ _ _ _ _ _ _ _)))=(@TxtT dr AA=true∧rowXX _ _ _ _ _ _ _ _)
    rw[h]
    simp only[false_or,true_and]
def loadE (P:Program) (T:TypeId) (B:Nat→Option (List SV)):Option SV→Option (SV×Eff)
  | some (.d (.pp cs off))=>(loadD P T cs off).map fun s=>(.d s, .no)
  | some (.op b off)=>match B b with
    | some cs=>(loadS P T cs off).map fun s=>(s, .no)
    | none=>none
  | _=>none
@[simp] theorem loadE_pp (T:TypeId) (B:Nat→Option (List SV)) (cs:List D) (off:Nat):loadE P T B (some (.d (.pp cs off)))=(loadD P T cs off).map fun s=>(.d s, .no):=(rfl)
def loadB (P:Program) (T:TypeId) (off:Nat):Option (List SV)→Option (SV×Eff)
  | some cs=>(loadS P T cs off).map fun s=>(s, .no)
  | none=>none
@[simp] theorem loadB_some (T off:Nat) (cs:List SV):loadB P T off (some cs)=(loadS P T cs off).map fun s=>(s, .no):=(rfl)
@[simp] theorem loadE_op (T:TypeId) (B:Nat→Option (List SV)) (b off:Nat):loadE P T B (some (.op b off))=loadB P T off (B b):=(rfl)
@[simp] theorem SeeT_load (T:TypeId) (x:Operand):@SeeT true dr P AA bb ii ⟨⟨d, .load T x,ty,p,af,g⟩⟩ ⟨ll⟩ E S QQ=OpT (loadE P T S.B (evalO E x)) (fun t s e=>@VLt t dr P AA bb (ii+1) ⟨ll⟩ (E.put d s) (S.app (bb+ii) e) QQ):=SeeT_op_ rfl
def storeE (B:Nat→Option (List SV)):Option SV→Option SV→Option Nat→Option (SV×Eff)
  | some (.op b off),some s,some n=>match B b with
    | some cs=>onlyIf (s.one=true∧s.cells.length=n∧off+n≤cs.length) (.d (.v undef), .set b (cs.take off++s.cells++cs.drop (off+n)))
    | none=>none
  | _,_,_=>none
def storeB (b off n:Nat) (s:SV):Option (List SV)→Option (SV×Eff)
  | some cs=>onlyIf (s.one=true∧s.cells.length=n∧off+n≤cs.length) (.d (.v undef), .set b (cs.take off++s.cells++cs.drop (off+n)))
  | none=>none
@[simp] theorem storeB_some (b off n:Nat) (s:SV) (cs:List SV):storeB b off n s (some cs)=onlyIf (s.one=true∧s.cells.length=n∧off+n≤cs.length) (.d (.v undef), .set b (cs.take off++s.cells++cs.drop (off+n))):=(rfl)
@[simp] theorem storeE_some (B:Nat→Option (List SV)) (b off n:Nat) (s:SV):storeE B (some (.op b off)) (some s) (some n)=storeB b off n s (B b):=(rfl)
@[simp] theorem SeeT_store (T:TypeId) (x y:Operand):@SeeT true dr P AA bb ii ⟨⟨d, .store T x y,ty,p,af,g⟩⟩ ⟨ll⟩ E S QQ=OpT (storeE S.B (evalO E x) (evalO E y) (szOf P T)) (fun t s e=>@VLt t dr P AA bb (ii+1) ⟨ll⟩ (E.put d s) (S.app (bb+ii) e) QQ):=SeeT_op_ rfl
def nilE:Option SV→Option (SV×Eff)
  | some s=>if notNil s=true then some (s, .no) else none
  | none=>none
@[simp] theorem nilE_op (b off:Nat):nilE (some (.op b off))=some (.op b off, .no):=(rfl)
@[simp] theorem nilE_pp (cs:List D) (off:Nat):nilE (some (.d (.pp cs off)))=some (.d (.pp cs off), .no):=(rfl)
@[simp] theorem SeeT_nilCheck (x:Operand):@SeeT true dr P AA bb ii ⟨⟨d, .nilCheck x,ty,p,af,g⟩⟩ ⟨ll⟩ E S QQ=OpT (nilE (evalO E x)) (fun t s e=>@VLt t dr P AA bb (ii+1) ⟨ll⟩ (E.put d s) (S.app (bb+ii) e) QQ):=SeeT_op_ rfl
def binE (P:Program) (op:BinOp) (T:TypeId):Option SV→Option SV→Option (SV×Eff)
  | some (.d (.v u)),some (.d (.v v))=>(binS P op T u v).map fun r=>(.d (.v r), .no)
  | _,_=>none
@[simp] theorem binE_some (op:BinOp) (T:TypeId) (u v:Value):binE P op T (some (.d (.v u))) (some (.d (.v v)))=(binS P op T u v).map fun r=>(.d (.v r), .no):=(rfl)
noncomputable def binE2 (P:Program) (gl:Nat→Option D) (op:BinOp) (T:TypeId):Option SV→Option SV→Option (SV×Eff)
  | some (.d (.v u)),some (.d (.v v))=>(binS P op T u v).map fun r=>(.d (.v r), .no)
  | some s,some t=>eqlE P gl op T s t
  | _,_=>none
@[simp] theorem binE2_some (gl:Nat→Option D) (op:BinOp) (T:TypeId) (u v:Value):binE2 P gl op T (some (.d (.v u))) (some (.d (.v v)))=(binS P op T u v).map fun r=>(.d (.v r), .no):=(rfl)
@[simp] theorem binE2_agg (gl:Nat→Option D) (op:BinOp) (T:TypeId) (cs:List D) (t:SV):binE2 P gl op T (some (.d (.agg cs))) (some t)=eqlE P gl op T (.d (.agg cs)) t:=(rfl)
@[simp] theorem SeeT_bin_tmp (op:BinOp) (T T2:TypeId) (x:Operand) (t:Nat):@SeeT true dr P AA bb ii ⟨⟨d, .binOp op T x (.tmp t) T2,ty,p,af,g⟩⟩ ⟨ll⟩ E S QQ=OpT (binE2 P S.gl op T (evalO E x) (evalO E (.tmp t))) (fun t s e=>@VLt t dr P AA bb (ii+1) ⟨ll⟩ (E.put d s) (S.app (bb+ii) e) QQ):=SeeT_op_ rfl
theorem OpT_apart {op:BinOp}{T:TypeId}{s t:SV}{x y:D}{gl:Nat→Option D}{K:Bool→SV→Eff→Prop} (hop:op=.eql) (hg:gl cleanAt≠none) (hs:s.toD=some x) (ht:t.toD=some y) (hT:spanT P T=true) (hx:keyD P T x=true) (hy:keyD P T y=true) (hap:Apart x y) (k:K true (.d (.v (.bool false))) .no) :
    OpT (eqlE P gl op T s t) K:=by
  subst hop
  have:eqlE P gl .eql T s t=some (.d (.v (.bool false)), .no):=by
    unfold eqlE
    rw[hs,ht]
    exact @if_pos _ (Classical.propDecidable _) ⟨hg,hT,hx,hy,hap⟩ _ _ _
  rw[this]
  exact k
@[simp] theorem SeeT_bin_int (op:BinOp) (T T2:TypeId) (x:Operand) (k:IntKind) (n:Int):@SeeT true dr P AA bb ii ⟨⟨d, .binOp op T x (.const (.int k n)) T2,ty,p,af,g⟩⟩ ⟨ll⟩ E S QQ=OpT (binE P op T (evalO E x) (some (.d (.v (.int k n))))) (fun t s e=>@VLt t dr P AA bb (ii+1) ⟨ll⟩ (E.put d s) (S.app (bb+ii) e) QQ):=SeeT_op_ rfl
@[simp] theorem SeeT_bin_string (op:BinOp) (T T2:TypeId) (x:Operand) (s:ByteArray):@SeeT true dr P AA bb ii ⟨⟨d, .binOp op T x (.const (.string s)) T2,ty,p,af,g⟩⟩ ⟨ll⟩ E S QQ=OpT (binE P op T (evalO E x) (some (.d (.v (.string s))))) (fun t s e=>@VLt t dr P AA bb (ii+1) ⟨ll⟩ (E.put d s) (S.app (bb+ii) e) QQ):=SeeT_op_ rfl
def nilTestE (P:Program) (op:BinOp) (T:TypeId) (c:Value):Option SV→Option (SV×Eff)
  | some s=>(evalNil P op T s c).map fun s=>(s, .no)
  | none=>none
@[simp] theorem nilTestE_some (op:BinOp) (T:TypeId) (c:Value) (s:SV):nilTestE P op T c (some s)=(evalNil P op T s c).map fun s=>(s, .no):=(rfl)
@[simp] theorem SeeT_bin_nilI (op:BinOp) (T T2:TypeId) (x:Operand):@SeeT true dr P AA bb ii ⟨⟨d, .binOp op T x (.const .nilIface) T2,ty,p,af,g⟩⟩ ⟨ll⟩ E S QQ=OpT (nilTestE P op T .nilIface (evalO E x)) (fun t s e=>@VLt t dr P AA bb (ii+1) ⟨ll⟩ (E.put d s) (S.app (bb+ii) e) QQ):=SeeT_op_ rfl
@[simp] theorem SeeT_bin_nilP (op:BinOp) (T T2:TypeId) (x:Operand):@SeeT true dr P AA bb ii ⟨⟨d, .binOp op T x (.const (.pointer none)) T2,ty,p,af,g⟩⟩ ⟨ll⟩ E S QQ=OpT (nilTestE P op T (.pointer none) (evalO E x)) (fun t s e=>@VLt t dr P AA bb (ii+1) ⟨ll⟩ (E.put d s) (S.app (bb+ii) e) QQ):=SeeT_op_ rfl
def unE (op:UnOp):Option SV→Option (SV×Eff)
  | some (.d (.v u))=>(unS op u).map fun r=>(.d (.v r), .no)
  | _=>none
@[simp] theorem unE_some (op:UnOp) (u:Value):unE op (some (.d (.v u)))=(unS op u).map fun r=>(.d (.v r), .no):=(rfl)
@[simp] theorem SeeT_un (op:UnOp) (T:TypeId) (x:Operand):@SeeT true dr P AA bb ii ⟨⟨d, .unOp op T x,ty,p,af,g⟩⟩ ⟨ll⟩ E S QQ=OpT (unE op (evalO E x)) (fun t s e=>@VLt t dr P AA bb (ii+1) ⟨ll⟩ (E.put d s) (S.app (bb+ii) e) QQ):=SeeT_op_ rfl
def convE (P:Program) (id:Nat) (T U:TypeId):Option SV→Option (SV×Eff)
  | some s=>evalConv P id T U s
  | none=>none
@[simp] theorem convE_some (T U:TypeId) (s:SV):convE P id T U (some s)=evalConv P id T U s:=(rfl)
@[simp] theorem SeeT_convert (T U:TypeId) (x:Operand):@SeeT true dr P AA bb ii ⟨⟨d, .convert T U x,ty,p,af,g⟩⟩ ⟨ll⟩ E S QQ=OpT (convE P (bb+ii) T U (evalO E x)) (fun t s e=>@VLt t dr P AA bb (ii+1) ⟨ll⟩ (E.put d s) (S.app (bb+ii) e) QQ):=SeeT_op_ rfl
def makeE (P:Program) (S:St) (id:Nat) (d:Option Nat) (T:TypeId):Option SV→Option SV→Option (SV×Eff)
  | some s,some t=>evalMake P S id d T s t
  | _,_=>none
@[simp] theorem makeE_some (T:TypeId) (s t:SV):makeE P S id d T (some s) (some t)=evalMake P S id d T s t:=(rfl)
@[simp] theorem SeeT_makeSlice (T:TypeId) (x y:Operand):@SeeT true dr P AA bb ii ⟨⟨d, .makeSlice T x y,ty,p,af,g⟩⟩ ⟨ll⟩ E S QQ=OpT (makeE P S (bb+ii) d T (evalO E x) (evalO E y)) (fun t s e=>@VLt t dr P AA bb (ii+1) ⟨ll⟩ (E.put d s) (S.app (bb+ii) e) QQ):=SeeT_op_ rfl
def sliceE (P:Program) (E:Env) (S:St) (T:TypeId) (lo hi:Option Operand):Option SV→Option (SV×Eff)
  | some s=>(evalSlice P E S T s lo hi).map fun s=>(s, .no)
  | none=>none
@[simp] theorem sliceE_some (T:TypeId) (lo hi:Option Operand) (s:SV):sliceE P E S T lo hi (some s)=(evalSlice P E S T s lo hi).map fun s=>(s, .no):=(rfl)
@[simp] theorem SeeT_slice (T:TypeId) (x:Operand) (lo hi:Option Operand):@SeeT true dr P AA bb ii ⟨⟨d, .slice T x lo hi none,ty,p,af,g⟩⟩ ⟨ll⟩ E S QQ=OpT (sliceE P E S T lo hi (evalO E x)) (fun t s e=>@VLt t dr P AA bb (ii+1) ⟨ll⟩ (E.put d s) (S.app (bb+ii) e) QQ):=SeeT_op_ rfl
def fieldE (P:Program):Option SV→Option (TypeId×Nat)→Option (SV×Eff)
  | some (.ag cs),some (t,off)=>(loadS P t cs off).map fun s=>(s, .no)
  | some (.d (.agg cs)),some (t,off)=>(loadD P t cs off).map fun s=>(.d s, .no)
  | _,_=>none
@[simp] theorem fieldE_ag (cs:List SV) (t off:Nat):fieldE P (some (.ag cs)) (some (t,off))=(loadS P t cs off).map fun s=>(s, .no):=(rfl)
@[simp] theorem fieldE_agg (cs:List D) (t off:Nat):fieldE P (some (.d (.agg cs))) (some (t,off))=(loadD P t cs off).map fun s=>(.d s, .no):=(rfl)
@[simp] theorem SeeT_field (T:TypeId) (x:Operand) (i:Nat):@SeeT true dr P AA bb ii ⟨⟨d, .field T x i,ty,p,af,g⟩⟩ ⟨ll⟩ E S QQ=OpT (fieldE P (evalO E x) (fieldTy P T i)) (fun t s e=>@VLt t dr P AA bb (ii+1) ⟨ll⟩ (E.put d s) (S.app (bb+ii) e) QQ):=SeeT_op_ rfl
def fieldAddrE:Option SV→Option Nat→Option (SV×Eff)
  | some (.d (.pp cs off)),some n=>some (.d (.pp cs (off+n)), .no)
  | some (.op b off),some n=>some (.op b (off+n), .no)
  | _,_=>none
@[simp] theorem fieldAddrE_pp (cs:List D) (off n:Nat):fieldAddrE (some (.d (.pp cs off))) (some n)=some (.d (.pp cs (off+n)), .no):=(rfl)
@[simp] theorem fieldAddrE_op (b off n:Nat):fieldAddrE (some (.op b off)) (some n)=some (.op b (off+n), .no):=(rfl)
@[simp] theorem SeeT_fieldAddr (T:TypeId) (x:Operand) (i:Nat):@SeeT true dr P AA bb ii ⟨⟨d, .fieldAddr T x i,ty,p,af,g⟩⟩ ⟨ll⟩ E S QQ=OpT (fieldAddrE (evalO E x) (fieldOf P T i)) (fun t s e=>@VLt t dr P AA bb (ii+1) ⟨ll⟩ (E.put d s) (S.app (bb+ii) e) QQ):=SeeT_op_ rfl
def indexAddrE (P:Program) (T:TypeId):Option SV→Option SV→Option (SV×Eff)
  | some s,some (.d (.v (.int _ i)))=>(evalIndexAddr P T s i).map fun s=>(s, .no)
  | _,_=>none
@[simp] theorem indexAddrE_some (T:TypeId) (s:SV) (k:IntKind) (i:Int):indexAddrE P T (some s) (some (.d (.v (.int k i))))=(evalIndexAddr P T s i).map fun s=>(s, .no):=(rfl)
@[simp] theorem SeeT_indexAddr (T:TypeId) (x y:Operand):@SeeT true dr P AA bb ii ⟨⟨d, .indexAddr T x y,ty,p,af,g⟩⟩ ⟨ll⟩ E S QQ=OpT (indexAddrE P T (evalO E x) (evalO E y)) (fun t s e=>@VLt t dr P AA bb (ii+1) ⟨ll⟩ (E.put d s) (S.app (bb+ii) e) QQ):=SeeT_op_ rfl
def byteI (s:ByteArray) (i:Nat):Int:=((s.data.toList.getD i 0).toNat:Int)
def indexE:Option SV→Option SV→Bool→Option (SV×Eff)
  | some (.d (.v (.string s))),some (.d (.v (.int _ i))),true=>onlyIf (0≤i∧i<s.size) (.d (.v (.int .u8 (s.data.toList.getD i.toNat 0).toNat)), .no)
  | _,_,_=>none
@[simp] theorem indexE_some (s:ByteArray) (k:IntKind) (i:Int):indexE (some (.d (.v (.string s)))) (some (.d (.v (.int k i)))) true=onlyIf (0≤i∧i<s.size) (.d (.v (.int .u8 (byteI s i.toNat))), .no):=(rfl)
@[simp] theorem SeeT_index (T:TypeId) (x y:Operand):@SeeT true dr P AA bb ii ⟨⟨d, .index T x y,ty,p,af,g⟩⟩ ⟨ll⟩ E S QQ=OpT (indexE (evalO E x) (evalO E y) (isString P T)) (fun t s e=>@VLt t dr P AA bb (ii+1) ⟨ll⟩ (E.put d s) (S.app (bb+ii) e) QQ):=SeeT_op_ rfl
def mkIfcE (T:TypeId):Option SV→Option Bool→Option (SV×Eff)
  | some s,some false=>some (mkIfc T s, .no)
  | _,_=>none
@[simp] theorem mkIfcE_some (T:TypeId) (s:SV):mkIfcE T (some s) (some false)=some (mkIfc T s, .no):=(rfl)
@[simp] theorem SeeT_makeInterface (T:TypeId) (x:Operand):@SeeT true dr P AA bb ii ⟨⟨d, .makeInterface T x,ty,p,af,g⟩⟩ ⟨ll⟩ E S QQ=OpT (mkIfcE T (evalO E x) (isIface P T)) (fun t s e=>@VLt t dr P AA bb (ii+1) ⟨ll⟩ (E.put d s) (S.app (bb+ii) e) QQ):=SeeT_op_ rfl
def assertE (P:Program) (A:TypeId) (ok:Bool):Option SV→Option (SV×Eff)
  | some s=>(evalAssert P A ok s).map fun s=>(s, .no)
  | none=>none
@[simp] theorem assertE_some (A:TypeId) (ok:Bool) (s:SV):assertE P A ok (some s)=(evalAssert P A ok s).map fun s=>(s, .no):=(rfl)
@[simp] theorem SeeT_typeAssert (x:Operand) (T A:TypeId) (ok:Bool):@SeeT true dr P AA bb ii ⟨⟨d, .typeAssert x T A ok,ty,p,af,g⟩⟩ ⟨ll⟩ E S QQ=OpT (assertE P A ok (evalO E x)) (fun t s e=>@VLt t dr P AA bb (ii+1) ⟨ll⟩ (E.put d s) (S.app (bb+ii) e) QQ):=SeeT_op_ rfl
def extractE (i:Nat):Option SV→Option (SV×Eff)
  | some t=>(tupS t i).map fun s=>(s, .no)
  | none=>none
@[simp] theorem extractE_some (i:Nat) (t:SV):extractE i (some t)=(tupS t i).map fun s=>(s, .no):=(rfl)
@[simp] theorem SeeT_extract (x:Operand) (i:Nat):@SeeT true dr P AA bb ii ⟨⟨d, .extract x i,ty,p,af,g⟩⟩ ⟨ll⟩ E S QQ=OpT (extractE i (evalO E x)) (fun t s e=>@VLt t dr P AA bb (ii+1) ⟨ll⟩ (E.put d s) (S.app (bb+ii) e) QQ):=SeeT_op_ rfl
def lenE (P:Program) (T:TypeId):Option SV→Option (SV×Eff)
  | some s=>(evalLen P s T).map fun s=>(s, .no)
  | none=>none
@[simp] theorem lenE_some (T:TypeId) (s:SV):lenE P T (some s)=(evalLen P s T).map fun s=>(s, .no):=(rfl)
def LenT (P:Program) (S:St) (dr:Bool) [A:Ar] (T:TypeId) (K:Bool→SV→Eff→Prop) (s:Option SV):Prop:=OpT (lenE P T s) K∨(@TxtT dr A=true∧lenX P S T (HidK K) s)
@[simp] theorem LenT_d (A:Ar) (T:TypeId) (K:Bool→SV→Eff→Prop) (x:D):@LenT P S dr A T K (some (.d x))=OpT (lenE P T (some (.d x))) K:=by simp[LenT,lenX]
@[simp] theorem LenT_os (A:Ar) (T:TypeId) (K:Bool→SV→Eff→Prop) (b off n:Nat):@LenT P S dr A T K (some (.os b off n))=OpT (lenE P T (some (.os b off n))) K:=by simp[LenT,lenX]
@[simp] theorem LenT_sk (A:Ar) (T:TypeId) (K:Bool→SV→Eff→Prop) (b n sz:Nat):@LenT P S dr A T K (some (.sk b n sz))=OpT (lenE P T (some (.sk b n sz))) K:=by simp[LenT,lenX]
@[simp] theorem SeeT_len (x:Operand) (T:TypeId):@SeeT true dr P AA bb ii ⟨⟨d, .call { callee:=.builtin .len,args:=#[x],argTypes:=#[T] },ty,p,af,g⟩⟩ ⟨ll⟩ E S QQ = @LenT P S dr AA T (fun t s e=>@VLt t dr P AA bb (ii+1) ⟨ll⟩ (E.put d s) (S.app (bb+ii) e) QQ) (evalO E x):=SeeT_x_ rfl
@[simp] theorem SeeT_makeFunc (fn:Fn) (xs ys:Array Operand):@SeeT true dr P AA bb ii ⟨⟨d, .makeFunc fn xs ys,ty,p,af,g⟩⟩ ⟨ll⟩ E S QQ=ArgT (argsS E xs.toList) (fun t as=>ArgT (argsS E ys.toList) (fun t bs=>@VLt t dr P AA bb (ii+1) ⟨ll⟩ (E.put d (.fn fn as bs)) (S.app (bb+ii) .no) QQ)):=by
  rw[SeeT_op_ rfl]
  show OpT (match argsS E xs.toList,argsS E ys.toList with | some xs,some ys=>some (SV.fn fn xs ys,Eff.no) | _,_=>none) _=_
  cases argsS E xs.toList with
  | none=>simp[OpT,Op1,ArgT,ArgK]
  | some as=>cases argsS E ys.toList<;>simp[OpT,Op1,ArgT,ArgK]
@[simp] theorem SeeT_makeMap (T:TypeId):@SeeT true false P AA bb ii ⟨⟨d, .makeMap T none,ty,p,af,g⟩⟩ ⟨ll⟩ E S QQ = @VLt true false P AA bb (ii+1) ⟨ll⟩ (E.put d (.mv (bb+ii))) (S.app (bb+ii) (.new [.mc [] []])) QQ:=by
  rw[SeeT_x_ rfl,TxtT_text]
  show (False∨(true=true∧_))=_
  simp only[false_or,true_and]
  rfl
@[simp] theorem SeeT_lookup (T:TypeId) (x y:Operand) (ok:Bool):@SeeT true false P AA bb ii ⟨⟨d, .lookup T x y ok,ty,p,af,g⟩⟩ ⟨ll⟩ E S QQ=lookX P S ok T (HidK (fun t s e=>@VLt t false P AA bb (ii+1) ⟨ll⟩ (E.put d s) (S.app (bb+ii) e) QQ)) (evalO E x) (evalO E y):=by
  rw[SeeT_x_ rfl,TxtT_text]
  show (OpT (lookE P T ok (evalO E x) (evalO E y)) _∨(true=true∧lookX _ _ _ _ _ _ _))=_
  simp only[true_and]
  refine propext (or_iff_right_of_imp ?_)
  unfold lookE
  split
  · rename_i ks vs t h1 h2
    intro h
    rw[h1,h2]
    cases hl:lookS P T ks (vs.map .d) t ok with
    | none=>rw[hl] at h;exact h.elim
    | some r=>rw[hl] at h;exact⟨r,hl,h⟩
  · exact fun h=>h.elim
@[simp] theorem SeeT_mapUpdate (T:TypeId) (x y z:Operand):@SeeT true false P AA bb ii ⟨⟨d, .mapUpdate T x y z,ty,p,af,g⟩⟩ ⟨ll⟩ E S QQ=updX P S T (HidK (fun t s e=>@VLt t false P AA bb (ii+1) ⟨ll⟩ (E.put d s) (S.app (bb+ii) e) QQ)) (evalO E x) (evalO E y) (evalO E z):=by
  rw[SeeT_x_ rfl,TxtT_text]
  show (False∨(true=true∧updX _ _ _ _ _ _ _))=_
  simp only[false_or,true_and]
@[simp] theorem SeeT_range (T:TypeId) (x:Operand):@SeeT true false P AA bb ii ⟨⟨d, .range T x,ty,p,af,g⟩⟩ ⟨ll⟩ E S QQ=rangeX P (bb+ii) T (HidK (fun t s e=>@VLt t false P AA bb (ii+1) ⟨ll⟩ (E.put d s) (S.app (bb+ii) e) QQ)) (evalO E x):=by
  rw[SeeT_x_ rfl,TxtT_text]
  show (False∨(true=true∧rangeX _ _ _ _ _))=_
  simp only[false_or,true_and]
@[simp] theorem SeeT_next (x:Operand):@SeeT true false P AA bb ii ⟨⟨d, .next x false,ty,p,af,g⟩⟩ ⟨ll⟩ E S QQ=nextX S (HidK (fun t s e=>@VLt t false P AA bb (ii+1) ⟨ll⟩ (E.put d s) (S.app (bb+ii) e) QQ)) (evalO E x):=by
  rw[SeeT_x_ rfl,TxtT_text]
  show (False∨(true=true∧nextX _ _ _))=_
  simp only[false_or,true_and]
@[simp] theorem SeeT_entry (x:Operand):@SeeT true false P AA bb ii ⟨⟨d, .entry x,ty,p,af,g⟩⟩ ⟨ll⟩ E S QQ=entryX S (HidK (fun t s e=>@VLt t false P AA bb (ii+1) ⟨ll⟩ (E.put d s) (S.app (bb+ii) e) QQ)) (evalO E x):=by
  rw[SeeT_x_ rfl,TxtT_text]
  show (False∨(true=true∧entryX _ _ _))=_
  simp only[false_or,true_and]
@[simp] theorem SeeT_copy (x y:Operand) (T T2:TypeId):@SeeT true false P AA bb ii ⟨⟨d, .call { callee:=.builtin .copy,args:=#[x,y],argTypes:=#[T,T2] },ty,p,af,g⟩⟩ ⟨ll⟩ E S QQ=copyX P S T (HidK (fun t s e=>@VLt t false P AA bb (ii+1) ⟨ll⟩ (E.put d s) (S.app (bb+ii) e) QQ)) (evalO E x) (evalO E y):=by
  rw[SeeT_x_ rfl,TxtT_text]
  show (False∨(true=true∧copyX _ _ _ _ _ _))=_
  simp only[false_or,true_and]
@[simp] theorem lookX_mp (ok:Bool) (T:TypeId) (K:SV→Eff→Prop) (ks vs:List D) (s:ByteArray):lookX P S ok T K (some (.d (.mp ks vs))) (some (.d (.v (.string s))))=∃ r,lookS P T ks (vs.map .d) s ok=some r∧K r .no:=(rfl)
@[simp] theorem lookX_mv (ok:Bool) (T:TypeId) (K:SV→Eff→Prop) (b:Nat) (k:SV):lookX P S ok T K (some (.mv b)) (some k)=lookV P S.gl ok T K (S.B b) k:=(rfl)
@[simp] theorem lookV_str (gl:Nat→Option D) (ok:Bool) (T:TypeId) (K:SV→Eff→Prop) (ks:List D) (vs:List SV) (s:ByteArray):lookV P gl ok T K (some [.mc ks vs]) (.d (.v (.string s)))=∃ r,lookS P T ks vs s ok=some r∧K r .no:=(rfl)
@[simp] theorem updX_mv (T:TypeId) (K:SV→Eff→Prop) (b:Nat) (k v:SV):updX P S T K (some (.mv b)) (some k) (some v)=updV P S.gl T K b v (S.B b) k:=(rfl)
@[simp] theorem updV_str (gl:Nat→Option D) (T:TypeId) (K:SV→Eff→Prop) (b:Nat) (v:SV) (ks:List D) (vs:List SV) (s:ByteArray):updV P gl T K b v (some [.mc ks vs]) (.d (.v (.string s)))=∃ e c,Sh.mapOf P T=some e∧updK ks vs s v=some c∧K (.d (.v undef)) (.set b [c]):=(rfl)
@[simp] theorem rangeX_mp (T:TypeId) (K:SV→Eff→Prop) (ks vs:List D):rangeX P id T K (some (.d (.mp ks vs)))=(isMap P T=true∧K (.iv id) (.new [.ic ks vs []])):=(rfl)
@[simp] theorem nextX_iv (K:SV→Eff→Prop) (b:Nat):nextX S K (some (.iv b))=nextV K b (S.B b):=(rfl)
theorem nextV.mk {K:Bool→SV→Eff→Prop}{b:Nat}{ks vs:List D}{seen:List Nat} (h:∀ j (hk:j<ks.length) (hv:j<vs.length),j∉seen→K true (.tu [.d (.v (.bool true)), .d ks[j], .d vs[j]]) (.set b [.ic ks vs (seen++[j])])) (k:(∀ j,j<ks.length→j∈seen)→K true (.tu [.d (.v (.bool false))]) .no) :
    nextV (HidK K) b (some [.ic ks vs seen]):=⟨h,k⟩
@[simp] theorem entryX_iv (K:SV→Eff→Prop) (b:Nat):entryX S K (some (.iv b))=entryV K (S.B b):=(rfl)
def entry2 (K:SV→Eff→Prop):Option D→Option D→Prop
  | some k,some v=>K (.tu [.d k, .d v]) .no
  | _,_=>False
@[simp] theorem entry2_some (K:SV→Eff→Prop) (k v:D):entry2 K (some k) (some v)=K (.tu [.d k, .d v]) .no:=(rfl)
@[simp] theorem entryV_last (K:SV→Eff→Prop) (ks vs:List D) (seen:List Nat) (j:Nat):entryV K (some [.ic ks vs (seen++[j])])=entry2 K ks[j]? vs[j]?:=by
  unfold entryV
  apply propext
  constructor
  · rintro ⟨j',h1,hk,hv,h⟩
    simp at h1
    subst h1
    rw[List.getElem?_eq_getElem hk,List.getElem?_eq_getElem hv]
    exact h
  · intro h
    unfold entry2 at h
    split at h
    · rename_i h1 h2
      obtain⟨hk,rfl⟩:=List.getElem?_eq_some_iff.1 h1
      obtain⟨hv,rfl⟩:=List.getElem?_eq_some_iff.1 h2
      exact⟨j,by simp,hk,hv,h⟩
    · exact h.elim
@[simp] theorem copyX_sk (T:TypeId) (K:SV→Eff→Prop) (b n sz:Nat) (t:SV):copyX P S T K (some (.sk b n sz)) (some t)=copyV P T K b 0 n (S.B b) (rowS t) (elemOf P T):=(rfl)
@[simp] theorem copyV_some (T:TypeId) (K:SV→Eff→Prop) (b off n:Nat) (cs:List SV) (ds:List D) (m e sz:Nat):copyV P T K b off n (some cs) (some (ds,m)) (some (e,sz))=(m≤n∧off+m*sz≤cs.length∧ds.length=m*sz∧0<m*sz∧K (.d (.v (.int .i64 m))) (.set b (cs.take off++ds.map .d++cs.drop (off+m*sz)))):=(rfl)
def appendE (P:Program) (S:St) (id:Nat) (d:Option Nat) (T:TypeId):Option SV→Option SV→Option (SV×Eff)
  | some s,some t=>evalAppend P S id d T s t
  | _,_=>none
@[simp] theorem appendE_some (T:TypeId) (s t:SV):appendE P S id d T (some s) (some t)=evalAppend P S id d T s t:=(rfl)
theorem evalOp_append (x y:Operand) (T:TypeId):evalOp P E S id ⟨d, .call { callee:=.builtin .append,args:=#[x,y],argTypes:=#[T,T] },ty,p,af,g⟩=appendE P S id d T (evalO E x) (evalO E y):=by
  show (match evalO E x,evalO E y with | some s,some t=>if T=T then evalAppend P S id d T s t else none | _,_=>none)=_
  unfold appendE
  split<;>simp
@[simp] theorem SeeT_append (x y:Operand) (T:TypeId):@SeeT true dr P AA bb ii ⟨⟨d, .call { callee:=.builtin .append,args:=#[x,y],argTypes:=#[T,T] },ty,p,af,g⟩⟩ ⟨ll⟩ E S QQ=OpT (appendE P S (bb+ii) d T (evalO E x) (evalO E y)) (fun t s e=>@VLt t dr P AA bb (ii+1) ⟨ll⟩ (E.put d s) (S.app (bb+ii) e) QQ):=by
  rw[SeeT_op_ rfl,evalOp_append]
end
end
end Go.Sh
