/- ShG and what follows it, one behind another. -/
import Derived.Test.YtlmpjblmmpddeaaGreatMg2
import Derived.OrdersIn
set_option linter.unusedVariables false
set_option linter.unusedSimpArgs false
namespace Go.Sh
open Go.RowKit (Below)
section
variable {P:Program}{E E':Env}{S S':St}
def elemOf (P:Program) (T:TypeId):Option (TypeId×Nat) :=
  match P.underlying T with
  | some (.slice e)=>match szOf P e with
    | some n=>some (e,n)
    | none=>none
  | _=>none
def arrayOf (P:Program) (T:TypeId):Option (Nat×Nat) :=
  match P.underlying T with
  | some (.array n e)=>match szOf P e with
    | some k=>some (n,k)
    | none=>none
  | _=>none
def fieldTy (P:Program) (T:TypeId) (i:Nat):Option (TypeId×Nat) :=
  match P.underlying T with
  | some (.struct fs)=>match fs[i]? with
    | some f=>some (f.type,f.offset)
    | none=>none
  | _=>none
def isString (P:Program) (T:TypeId):Bool:=match P.underlying T with | some .string=>true | _=>false
def isSlice (P:Program) (T:TypeId):Bool:=match P.underlying T with | some (.slice _)=>true | _=>false
def isIface (P:Program) (T:TypeId):Option Bool:=match P.underlying T with | some (.interface _)=>some true | some _=>some false | none=>none
def intKindOf (P:Program) (T:TypeId):Option IntKind:=match P.underlying T with | some (.int k)=>some k | _=>none
def known (P:Program) (T:TypeId):Bool:=(P.underlying T).isSome
theorem isString_ok {T:TypeId} (h:isString P T=true):P.underlying T=some .string:=by unfold isString at h;split at h<;>simp_all
theorem isSlice_ok {T:TypeId} (h:isSlice P T=true):∃ e,P.underlying T=some (.slice e):=by unfold isSlice at h;split at h<;>simp_all
theorem elemOf_ok {T e:TypeId}{sz:Nat} (ha:elemOf P T=some (e,sz)):P.underlying T=some (.slice e)∧szOf P e=some sz:=by
  unfold elemOf at ha
  split at ha
  · rename_i e' hu
    split at ha
    · rename_i k hk
      simp only[Option.some.injEq,Prod.mk.injEq] at ha;obtain⟨rfl,rfl⟩:=ha
      exact⟨hu,hk⟩
    · cases ha
  · cases ha
theorem arrayOf_ok {T:TypeId}{n sz:Nat} (ha:arrayOf P T=some (n,sz)):∃ e,P.underlying T=some (.array n e)∧szOf P e=some sz:=by
  unfold arrayOf at ha
  split at ha
  · rename_i n' e hu
    split at ha
    · rename_i k hk
      simp only[Option.some.injEq,Prod.mk.injEq] at ha;obtain⟨rfl,rfl⟩:=ha
      exact⟨e,hu,hk⟩
    · cases ha
  · cases ha
theorem intKindOf_ok {T:TypeId}{k:IntKind} (h:intKindOf P T=some k):P.underlying T=some (.int k):=by unfold intKindOf at h;split at h<;>simp_all
def bytesOf (P:Program) (T:TypeId):Option TypeId :=
  match P.underlying T with
  | some (.slice e)=>match P.underlying e with
    | some (.int .u8)=>some e
    | _=>none
  | _=>none
theorem bytesOf_ok {T e:TypeId} (h:bytesOf P T=some e):P.underlying T=some (.slice e)∧P.underlying e=some (.int .u8):=by
  unfold bytesOf at h
  split at h
  · rename_i e' hu
    split at h
    · rename_i hb;simp only[Option.some.injEq] at h;subst h;exact⟨hu,hb⟩
    · cases h
  · cases h
def makeOf (P:Program) (T:TypeId):Option (List SV×Nat×Nat) :=
  match P.underlying T with
  | some (.slice e)=>match P.info? e with
    | some i=>match zeroCellsOf P e with
      | some zs=>if zs.length=i.size then some (zs,i.size,i.bytes) else none
      | none=>none
    | none=>none
  | _=>none
theorem makeOf_ok {T:TypeId}{zs:List SV}{sz by_:Nat} (h:makeOf P T=some (zs,sz,by_)):∃ e i,P.underlying T=some (.slice e)∧P.info? e=some i∧zeroCellsOf P e=some zs∧zs.length=i.size∧i.size=sz∧i.bytes=by_:=by
  unfold makeOf at h
  split at h
  · rename_i e hu
    split at h
    · rename_i i hi
      split at h
      · rename_i zs' hz
        split at h
        · rename_i hl
          simp only[Option.some.injEq,Prod.mk.injEq] at h;obtain⟨rfl,rfl,rfl⟩:=h
          exact⟨e,i,hu,hi,hz,hl,rfl,rfl⟩
        · cases h
      · cases h
    · cases h
  · cases h
def onlyIf {α:Type} (c:Prop) [Decidable c] (x:α):Option α:=if c then some x else none
theorem onlyIf_ok {α:Type}{c:Prop} [Decidable c] {x y:α} (h:onlyIf c x=some y):c∧y=x:=by
  unfold onlyIf at h
  split at h
  · simp only[Option.some.injEq] at h;exact⟨by assumption,h.symm⟩
  · cases h
def evalLen (P:Program) (s:SV) (T:TypeId):Option SV :=
  match s with
  | .d (.v (.string b))=>if isString P T=true then some (.d (.v (.int .i64 b.size))) else none
  | .d (.mp ks _)=>if isMap P T=true then some (.d (.v (.int .i64 ks.length))) else none
  | s=>match lenS s with
    | some n=>if isSlice P T=true then some (.d (.v (.int .i64 n))) else none
    | none=>none
theorem OpS.evalLen {id:Nat}{o:Oper}{x:Operand}{T:TypeId}{s r:SV} (ho:o.op=.call { callee:=.builtin .len,args:=#[x],argTypes:=#[T] }) (hs:evalO E x=some s) (h:Sh.evalLen P s T=some r):OpS P id E S o r S:=by
  unfold Sh.evalLen at h
  split at h
  · rename_i b'
    split at h
    · rename_i h3
      simp only[Option.some.injEq] at h;subst h
      exact .quiet (fun m0 w0 G F a w hr=>does_len_string (T2:=T) ho hr hs (isString_ok h3))
    · cases h
  · rename_i ks vs
    split at h
    · rename_i h3
      simp only[Option.some.injEq] at h;subst h
      refine .quiet (fun m0 w0 G F a w hr=>?_)
      have hX:=evalO_ok hr hs
      generalize hu:a.eval x=u at hX
      cases hX with
      | d hp =>
        obtain⟨B,es,rfl,hm,h1,h2,_⟩:=hp.mp_inv
        rw[← h2]
        exact does_len_map ho hr hu h1 h3
    · cases h
  · split at h
    · rename_i n hl
      split at h
      · rename_i h3
        simp only[Option.some.injEq] at h;subst h
        obtain⟨e,hu⟩:=isSlice_ok h3
        exact .quiet (fun m0 w0 G F a w hr=>does_len ho hr hs hl hu)
      · cases h
    · cases h
def appBound (n m by_:Nat):Prop:=(n+m)*by_≤140737488355328∧n+m≤140737488355328
instance (n m by_:Nat):Decidable (appBound n m by_):=by unfold appBound;infer_instance
def appV (B:Nat→Option (List SV)) (id:Nat) (s:SV) (sz by_:Nat) (t:Option (List SV×Nat)):Option (SV×Eff) :=
  match t with
  | some (xs,m)=>match s with
    | .fl cs n=>onlyIf (0<m∧cs.length=n*sz∧xs.length=m*sz∧appBound n m by_) (.sk id (n+m) sz, .new (cs.map .d++xs))
    | .sk b n sz'=>match B b with
      | some cs=>onlyIf (sz'=sz∧0<m∧n*sz≤cs.length∧xs.length=m*sz∧appBound n m by_) (.sk id (n+m) sz, .mov b (cs.take (n*sz)++xs))
      | none=>none
    | _=>none
  | none=>none
def evalAppend (P:Program) (S:St) (id:Nat) (dst:Option Nat) (T:TypeId) (s t:SV):Option (SV×Eff) :=
  match rowS t,appOf P T with
  | some (ds,m),some (_,sz,by_)=>match s with
    | .fl cs n=>if m=0 then some (.fl cs n, .no) else
        if (dst.any fun d=>S.md.contains d)=true then onlyIf (cs.length=n*sz∧ds.length=m*sz∧appBound n m by_) (.os id 0 (n+m), .new ((cs++ds).map .d))
        else if (dst.any fun d=>S.md.contains (d+1000000))=true then onlyIf (cs.length=n*sz∧ds.length=m*sz∧appBound n m by_) (.sk id (n+m) sz, .new (cs.map .d++ds.map .d))
        else onlyIf (cs.length=n*sz∧ds.length=m*sz∧appBound n m by_) (.tp id 0 (cs++ds) (n+m), .tip id (n+m) sz)
    | .tp i q cs n=>onlyIf (S.T i=some (q+n,sz)∧cs.length=n*sz∧ds.length=m*sz∧appBound n m by_) (.tp i q (cs++ds) (n+m), .tip i (q+(n+m)) sz)
    | .sk b n sz'=>match S.B b with
      | some cs=>if m=0 then some (.sk b n sz', .no) else onlyIf (sz'=sz∧0<m∧n*sz≤cs.length∧ds.length=m*sz∧appBound n m by_) (.sk id (n+m) sz, .mov b (cs.take (n*sz)++ds.map .d))
      | none=>none
    | _=>none
  | none,some (_,sz,by_)=>appV S.B id s sz by_ (rowSV S.B sz t)
  | _,_=>none
theorem keeps_app (id:Nat) (e:Eff):Keeps S (S.app id e):=by cases e<;>exact⟨rfl,rfl,rfl,Nat.le_refl _⟩
theorem OpS.evalAppend {id:Nat}{o:Oper}{x y:Operand}{T:TypeId}{s t r:SV}{e:Eff} (ho:o.op=.call { callee:=.builtin .append,args:=#[x,y],argTypes:=#[T,T] }) (hs:evalO E x=some s) (ht:evalO E y=some t)
    (h:Sh.evalAppend P S id o.dst T s t=some (r,e)):OpS P id E S o r (S.app id e):=by
  unfold Sh.evalAppend at h
  split at h
  · rename_i ds m ty sz by_ hr2 hT
    split at h
    · rename_i cs n
      split at h
      · rename_i hm
        subst hm
        simp only[Option.some.injEq,Prod.mk.injEq] at h;obtain⟨rfl,rfl⟩:=h
        exact .quiet (fun m0 w0 G F a w hr=>does_append_none ho hr hs ht rfl hr2 hT)
      · rename_i hm
        split at h
        · obtain⟨⟨h1,h2,h3,h4⟩,h5⟩:=onlyIf_ok h
          simp only[Prod.mk.injEq] at h5;obtain⟨rfl,rfl⟩:=h5
          exact .of_does (keeps_app _ _) (fun m0 w0 G F a w hr hid=>does_append_var ho hr hid hs ht hr2 hT (by omega) h1 h2 h3 h4)
        all_goals split at h
        · obtain⟨⟨h1,h2,h3,h4⟩,h5⟩:=onlyIf_ok h
          simp only[Prod.mk.injEq] at h5;obtain⟨rfl,rfl⟩:=h5
          exact .of_does (keeps_app _ _) (fun m0 w0 G F a w hr hid=>does_append_newD ho hr hid hs ht hr2 hT (by omega) h1 h2 h3 h4)
        · obtain⟨⟨h1,h2,h3,h4⟩,h5⟩:=onlyIf_ok h
          simp only[Prod.mk.injEq] at h5;obtain⟨rfl,rfl⟩:=h5
          exact .of_does (keeps_app _ _) (fun m0 w0 G F a w hr hid=>does_append_new ho hr hid hs ht hr2 hT (by omega) h1 h2 h3 h4)
    · rename_i i q cs n
      obtain⟨⟨h0,h1,h2,h3,h4⟩,h5⟩:=onlyIf_ok h
      simp only[Prod.mk.injEq] at h5;obtain⟨rfl,rfl⟩:=h5
      exact .of_does (keeps_app _ _) (fun m0 w0 G F a w hr hid=>(does_append_tip ho hr hs h0 ht hr2 hT h1 h2 h3 h4).less (fun b hb=>hb.1))
    · rename_i b n sz'
      split at h
      · rename_i cs hb
        split at h
        · rename_i hm
          subst hm
          simp only[Option.some.injEq,Prod.mk.injEq] at h;obtain⟨rfl,rfl⟩:=h
          exact .quiet (fun m0 w0 G F a w hr=>does_append_sk0 ho hr hs ht hr2 hT)
        obtain⟨⟨h0,h1,h2,h3,h4,h5⟩,h6⟩:=onlyIf_ok h
        simp only[Prod.mk.injEq] at h6;obtain⟨rfl,rfl⟩:=h6
        subst h0
        exact .of_does (keeps_app _ _) (fun m0 w0 G F a w hr hid=>does_append_sk ho hr hid hs hb ht hr2 hT h1 h2 h3 h4 h5)
      · cases h
    · cases h
  · rename_i ty sz by_ hr2 hT
    have hz:0<sz:=(appOf_ok hT).2.choose_spec.choose_spec.2.2.2.2.2
    unfold appV at h
    split at h
    · rename_i xs m hx
      split at h
      · rename_i cs n
        obtain⟨⟨h0,h1,h2,h3,h4⟩,h5⟩:=onlyIf_ok h
        simp only[Prod.mk.injEq] at h5;obtain⟨rfl,rfl⟩:=h5
        refine .of_does (keeps_app _ _) (fun m0 w0 G F a w hr hid=>?_)
        obtain⟨By,oy,cy,e2,vs,v1,v2,v3⟩:=rowSV_ok hr hx (evalO_ok hr ht) (by rw[h2];exact Nat.mul_pos h0 hz)
        exact does_append_newV ho hr hid hs e2 v1 v2 v3 hT h0 h1 h2 h3 h4
      · rename_i b n sz'
        split at h
        · rename_i cs hb
          obtain⟨⟨h0,h1,h2,h3,h4,h5⟩,h6⟩:=onlyIf_ok h
          simp only[Prod.mk.injEq] at h6;obtain⟨rfl,rfl⟩:=h6
          subst h0
          refine .of_does (keeps_app _ _) (fun m0 w0 G F a w hr hid=>?_)
          obtain⟨By,oy,cy,e2,vs,v1,v2,v3⟩:=rowSV_ok hr hx (evalO_ok hr ht) (by rw[h3];exact Nat.mul_pos h1 hz)
          exact does_append_skV ho hr hid hs hb e2 v1 v2 v3 hT h1 h2 h3 h4 h5
        · cases h
      · cases h
    · cases h
  · cases h
def evalSlice (P:Program) (E:Env) (S:St) (T:TypeId) (s:SV) (lo hi:Option Operand):Option SV :=
  match s with
  | .d (.v (.string b))=>match bndS E 0 lo,bndS E b.size hi,isString P T with
    | some l,some u,true=>onlyIf (0≤l∧l≤u∧u≤b.size) (.d (.v (.string (b.extract l.toNat u.toNat))))
    | _,_,_=>none
  | .op b off=>match arrayOf P T with
    | some (n,sz)=>match bndS E 0 lo,bndS E n hi with
      | some l,some u=>onlyIf (0≤l∧l<u∧u≤n) (.os b (off+l.toNat*sz) (u.toNat - l.toNat))
      | _,_=>none
    | none=>none
  | .d (.pp cs off)=>match arrayOf P T with
    | some (n,sz)=>match bndS E 0 lo,bndS E n hi with
      | some l,some u=>onlyIf (0≤l∧l<u∧u≤n) (.d (.ps ((cs.drop (off+l.toNat*sz)).take ((u.toNat - l.toNat)*sz)) (u.toNat - l.toNat)))
      | _,_=>none
    | none=>none
  | .os b off n=>match elemOf P T,bndS E 0 lo,bndS E n hi with
    | some (_,sz),some l,some u=>onlyIf (0≤l∧l<u∧u≤n) (.os b (off+l.toNat*sz) (u.toNat - l.toNat))
    | _,_,_=>none
  | .sk b n sz=>match lo with
    | none=>match elemOf P T,bndS E n hi with
      | some _,some u=>onlyIf (0≤u∧u≤n) (.sk b u.toNat sz)
      | _,_=>none
    | some _=>match elemOf P T,bndS E 0 lo,bndS E n hi with
      | some (_,sz'),some l,some u=>onlyIf (0≤l∧l≤u∧u≤n) (if l<u then .os b (l.toNat*sz') (u.toNat - l.toNat) else .d (.ps [] 0))
      | _,_,_=>none
  | s=>match rowS s with
    | some (cs,n)=>match elemOf P T,bndS E 0 lo,bndS E n hi with
      | some (_,sz),some l,some u=>onlyIf (0≤l∧l≤u∧u≤n) (.d (.ps ((cs.drop (l.toNat*sz)).take ((u.toNat - l.toNat)*sz)) (u.toNat - l.toNat)))
      | _,_,_=>none
    | none=>none
theorem OpS.evalSlice {id:Nat}{o:Oper}{x:Operand}{T:TypeId}{lo hi:Option Operand}{s r:SV} (ho:o.op=.slice T x lo hi none) (hs:evalO E x=some s) (h:Sh.evalSlice P E S T s lo hi=some r):OpS P id E S o r S:=by
  unfold Sh.evalSlice at h
  split at h
  · split at h
    · rename_i l u h1 h2 h3
      obtain⟨⟨c1,c2,c3⟩,rfl⟩:=onlyIf_ok h
      exact .quiet (fun m0 w0 G F a w hr=>does_slice_string ho hr hs (isString_ok h3) h1 h2 c1 c2 c3)
    · cases h
  · split at h
    · rename_i n sz hA
      obtain⟨e,hA1,hA2⟩:=arrayOf_ok hA
      split at h
      · rename_i l u h1 h2
        obtain⟨⟨c1,c2,c3⟩,rfl⟩:=onlyIf_ok h
        exact .quiet (fun m0 w0 G F a w hr=>does_slice_op ho hr hs hA1 hA2 h1 h2 c1 c2 c3)
      · cases h
    · cases h
  · split at h
    · rename_i n sz hA
      obtain⟨e,hA1,hA2⟩:=arrayOf_ok hA
      split at h
      · rename_i l u h1 h2
        obtain⟨⟨c1,c2,c3⟩,rfl⟩:=onlyIf_ok h
        exact .quiet (fun m0 w0 G F a w hr=>does_slice_pa ho hr hs hA1 hA2 h1 h2 c1 c2 c3)
      · cases h
    · cases h
  · split at h
    · rename_i e sz l u hA h1 h2
      obtain⟨hA1,hA2⟩:=elemOf_ok hA
      obtain⟨⟨c1,c2,c3⟩,rfl⟩:=onlyIf_ok h
      exact .quiet (fun m0 w0 G F a w hr=>does_slice_os ho hr hs hA1 hA2 h1 h2 c1 c2 c3)
    · cases h
  · rename_i b n sz
    split at h
    · split at h
      · rename_i es u hA h1
        obtain⟨hA1,hA2⟩:=elemOf_ok (e:=es.1) (sz:=es.2) hA
        obtain⟨⟨c1,c2⟩,rfl⟩:=onlyIf_ok h
        exact .quiet (fun m0 w0 G F a w hr=>does_slice_sk ho hr hs hA1 hA2 h1 c1 c2)
      · cases h
    · split at h
      · rename_i e sz' l u hA h1 h2
        obtain⟨hA1,hA2⟩:=elemOf_ok hA
        obtain⟨⟨c1,c2,c3⟩,rfl⟩:=onlyIf_ok h
        exact .quiet (fun m0 w0 G F a w hr=>does_slice_skL ho hr hs hA1 hA2 h1 h2 c1 c2 c3)
      · cases h
  · split at h
    · rename_i cs n hrow
      split at h
      · rename_i e sz l u hA h1 h2
        obtain⟨hA1,hA2⟩:=elemOf_ok hA
        obtain⟨⟨c1,c2,c3⟩,rfl⟩:=onlyIf_ok h
        exact .quiet (fun m0 w0 G F a w hr=>does_slice_row ho hr hs hrow hA1 hA2 h1 h2 c1 c2 c3)
      · cases h
    · cases h
def evalMake (P:Program) (S:St) (id:Nat) (dst:Option Nat) (T:TypeId) (s t:SV):Option (SV×Eff) :=
  match s,t,makeOf P T with
  | .d (.v (.int _ l)), .d (.v (.int _ c)),some (zs,sz,by_) =>
    if (dst.any fun d=>S.md.contains d)=true then onlyIf (l=0∧0<sz∧0≤c∧(by_:Int)*c≤281474976710656∧c≤9223372036854775807) (.tp id 0 [] 0, .tip id 0 sz)
    else if (dst.any fun d=>S.md.contains (d+1000000))=true then onlyIf (0≤l∧l≤c∧(by_:Int)*c≤281474976710656∧c≤9223372036854775807) (.sk id l.toNat sz, .new ((List.range (l.toNat*sz)).map fun j=>zs.getD (j % sz) (.d (.v undef))))
    else onlyIf (c=l∧0≤l∧(by_:Int)*l≤281474976710656∧l≤9223372036854775807) (.os id 0 l.toNat, .new ((List.range (l.toNat*sz)).map fun j=>zs.getD (j % sz) (.d (.v undef))))
  | _,_,_=>none
theorem OpS.evalMake {id:Nat}{o:Oper}{x y:Operand}{T:TypeId}{s t r:SV}{e:Eff} (ho:o.op=.makeSlice T x y) (hs:evalO E x=some s) (ht:evalO E y=some t) (h:Sh.evalMake P S id o.dst T s t=some (r,e)):OpS P id E S o r (S.app id e):=by
  unfold Sh.evalMake at h
  split at h
  · rename_i k l k' c zs sz by_ hT
    obtain⟨e',i,h1,h2,h3,h4,rfl,rfl⟩:=makeOf_ok hT
    split at h
    · obtain⟨⟨rfl,c1,c2,c3,c4⟩,h5⟩:=onlyIf_ok h
      simp only[Prod.mk.injEq] at h5;obtain⟨rfl,rfl⟩:=h5
      exact .of_does (keeps_app _ _) (fun m0 w0 G F a w hr hid=>does_make_tip ho hr hid hs ht h1 h2 h3 h4 c1 c2 c3 c4)
    all_goals split at h
    · obtain⟨⟨c1,c2,c3,c4⟩,h5⟩:=onlyIf_ok h
      simp only[Prod.mk.injEq] at h5;obtain⟨rfl,rfl⟩:=h5
      exact .of_does (keeps_app _ _) (fun m0 w0 G F a w hr hid=>does_make_sk ho hr hid hs ht h1 h2 h3 h4 c1 c2 c3 c4)
    · obtain⟨⟨rfl,c2,c3,c4⟩,h5⟩:=onlyIf_ok h
      simp only[Prod.mk.injEq] at h5;obtain⟨rfl,rfl⟩:=h5
      exact .of_does (keeps_app _ _) (fun m0 w0 G F a w hr hid=>does_make ho hr hid hs ht h1 h2 h3 h4 c2 c3 c4)
  · cases h
def evalConv (P:Program) (id:Nat) (T U:TypeId) (s:SV):Option (SV×Eff) :=
  match s with
  | .d (.v (.int _ n))=>match intKindOf P U,known P T with
    | some k,true=>some (.d (.v (.int k (k.wrap n))), .no)
    | _,_=>none
  | .d (.v (.string b))=>match isString P T,bytesOf P U with
    | true,some _=>some (.d (.ps (bytesD b) b.size), .no)
    | _,_=>none
  | s=>match rowS s with
    | some (cs,n)=>match numsOf cs,bytesOf P T,isString P U with
      | some ns,some _,true=>onlyIf (ns.length=n) (.d (.v (.string (strOfNums ns))), .no)
      | _,_,_=>none
    | none=>none
theorem OpS.evalConv {id:Nat}{o:Oper}{x:Operand}{T U:TypeId}{s r:SV}{e:Eff} (ho:o.op=.convert T U x) (hs:evalO E x=some s) (h:Sh.evalConv P id T U s=some (r,e)):OpS P id E S o r (S.app id e):=by
  unfold Sh.evalConv at h
  split at h
  · split at h
    · rename_i k h1 h2
      simp only[Option.some.injEq,Prod.mk.injEq] at h;obtain⟨rfl,rfl⟩:=h
      obtain⟨d,hd⟩:=Option.isSome_iff_exists.1 h2
      exact .quiet (fun m0 w0 G F a w hr=>does_convert ho hr hs hd (intKindOf_ok h1))
    · cases h
  · split at h
    · rename_i e' h1 h2
      simp only[Option.some.injEq,Prod.mk.injEq] at h;obtain⟨rfl,rfl⟩:=h
      obtain⟨g1,g2⟩:=bytesOf_ok h2
      exact .quiet (fun m0 w0 G F a w hr=>does_bytes_of_string ho hr hs (isString_ok h1) g1 g2)
    · cases h
  · split at h
    · rename_i cs n hrow
      split at h
      · rename_i ns e' h1 h2 h3
        obtain⟨c1,h5⟩:=onlyIf_ok h
        simp only[Prod.mk.injEq] at h5;obtain⟨rfl,rfl⟩:=h5
        obtain⟨g1,g2⟩:=bytesOf_ok h2
        exact .quiet (fun m0 w0 G F a w hr=>does_string_of_bytes ho hr hs hrow h1 c1 g1 g2 (isString_ok h3))
      · cases h
    · cases h
def evalAssert (P:Program) (A:TypeId) (ok:Bool) (s:SV):Option SV :=
  match ok with
  | true=>match s with
    | .d (.v .nilIface)=>match concrete P A,zeroS P A with
      | true,some z=>some (.tu [z, .d (.v (.bool false))])
      | _,_=>none
    | s=>match ifcS s,concrete P A,zeroS P A with
      | some (t,s'),true,some z=>some (if t=A then .tu [s', .d (.v (.bool true))] else .tu [z, .d (.v (.bool false))])
      | _,_,_=>none
  | false=>match ifcS s,concrete P A with
    | some (t,s'),true=>onlyIf (t=A) s'
    | _,_=>none
theorem OpS.evalAssert {id:Nat}{o:Oper}{x:Operand}{T A:TypeId}{ok:Bool}{s r:SV} (ho:o.op=.typeAssert x T A ok) (hs:evalO E x=some s) (h:Sh.evalAssert P A ok s=some r):OpS P id E S o r S:=by
  unfold Sh.evalAssert at h
  split at h
  · split at h
    · split at h
      · rename_i z h1 h2
        simp only[Option.some.injEq] at h;subst h
        exact .quiet (fun m0 w0 G F a w hr=>does_assert2_nil ho hr hs h1 h2)
      · cases h
    · split at h
      · rename_i t s' z h1 h2 h3
        simp only[Option.some.injEq] at h;subst h
        exact .quiet (fun m0 w0 G F a w hr=>does_assert2 ho hr hs h1 h2 h3)
      · cases h
  · split at h
    · rename_i t s' h1 h2
      obtain⟨rfl,rfl⟩:=onlyIf_ok h
      exact .quiet (fun m0 w0 G F a w hr=>does_assert1 ho hr hs h1 h2)
    · cases h
def evalIndexAddr (P:Program) (T:TypeId) (s:SV) (i:Int):Option SV :=
  match s with
  | .os b off n=>match elemOf P T with
    | some (_,sz)=>onlyIf (0≤i∧i<n) (.op b (off+i.toNat*sz))
    | none=>none
  | .sk b n _=>match elemOf P T with
    | some (_,sz)=>onlyIf (0≤i∧i<n) (.op b (i.toNat*sz))
    | none=>none
  | .op b off=>match arrayOf P T with
    | some (n,sz)=>onlyIf (0≤i∧i<n) (.op b (off+i.toNat*sz))
    | none=>none
  | .d (.pp cs off)=>match arrayOf P T with
    | some (n,sz)=>onlyIf (0≤i∧i<n) (.d (.pp cs (off+i.toNat*sz)))
    | none=>none
  | s=>match rowS s,elemOf P T with
    | some (cs,n),some (_,sz)=>onlyIf (0≤i∧i<n) (.d (.pp cs (i.toNat*sz)))
    | _,_=>none
theorem OpS.evalIndexAddr {id:Nat}{o:Oper}{x y:Operand}{T:TypeId}{s r:SV}{k:IntKind}{i:Int} (ho:o.op=.indexAddr T x y) (hs:evalO E x=some s) (hy:evalO E y=some (.d (.v (.int k i)))) (h:Sh.evalIndexAddr P T s i=some r):OpS P id E S o r S:=by
  unfold Sh.evalIndexAddr at h
  split at h
  · split at h
    · rename_i e sz hA
      obtain⟨hA1,hA2⟩:=elemOf_ok hA
      obtain⟨⟨c1,c2⟩,rfl⟩:=onlyIf_ok h
      exact .quiet (fun m0 w0 G F a w hr=>does_indexAddr_os ho hr hs hy hA1 hA2 c1 c2)
    · cases h
  · split at h
    · rename_i e sz hA
      obtain⟨hA1,hA2⟩:=elemOf_ok hA
      obtain⟨⟨c1,c2⟩,rfl⟩:=onlyIf_ok h
      exact .quiet (fun m0 w0 G F a w hr=>does_indexAddr_sk ho hr hs hy hA1 hA2 c1 c2)
    · cases h
  · split at h
    · rename_i n sz hA
      obtain⟨e,hA1,hA2⟩:=arrayOf_ok hA
      obtain⟨⟨c1,c2⟩,rfl⟩:=onlyIf_ok h
      exact .quiet (fun m0 w0 G F a w hr=>does_indexAddr_op ho hr hs hy hA1 hA2 c1 c2)
    · cases h
  · split at h
    · rename_i n sz hA
      obtain⟨e,hA1,hA2⟩:=arrayOf_ok hA
      obtain⟨⟨c1,c2⟩,rfl⟩:=onlyIf_ok h
      exact .quiet (fun m0 w0 G F a w hr=>does_indexAddr_pa ho hr hs hy hA1 hA2 c1 c2)
    · cases h
  · split at h
    · rename_i cs n e sz hrow hA
      obtain⟨hA1,hA2⟩:=elemOf_ok hA
      obtain⟨⟨c1,c2⟩,rfl⟩:=onlyIf_ok h
      exact .quiet (fun m0 w0 G F a w hr=>does_indexAddr_row ho hr hs hrow hy hA1 hA2 c1 c2)
    · cases h
def evalNil (P:Program) (op:BinOp) (T:TypeId) (s:SV) (c:Value):Option SV :=
  match nilTest P T s,nilFor P T c,op with
  | some b,true, .eql=>some (.d (.v (.bool b)))
  | some b,true, .neq=>some (.d (.v (.bool (!b))))
  | _,_,_=>none
theorem OpS.evalNil {id:Nat}{o:Oper}{op:BinOp}{T T2:TypeId}{x:Operand}{c:Value}{s r:SV} (ho:o.op=.binOp op T x (.const c) T2) (hs:evalO E x=some s) (h:Sh.evalNil P op T s c=some r):OpS P id E S o r S:=by
  unfold Sh.evalNil at h
  split at h
  · rename_i b h1 h2
    simp only[Option.some.injEq] at h;subst h
    exact .quiet (fun m0 w0 G F a w hr=>by simpa using does_nil_eq ho (.inl rfl) hr hs h1 h2)
  · rename_i b h1 h2
    simp only[Option.some.injEq] at h;subst h
    exact .quiet (fun m0 w0 G F a w hr=>by simpa using does_nil_eq ho (.inr rfl) hr hs h1 h2)
  · cases h
def zerosOf (P:Program) (T:TypeId):Option (List D×Nat) :=
  match elemOf P T with
  | some (e,sz)=>match zeroD P e with
    | some zs=>if zs.length=sz then some (zs,sz) else none
    | none=>none
  | none=>none
theorem zerosOf_ok {T:TypeId}{zs:List D}{sz:Nat} (h:zerosOf P T=some (zs,sz)):∃ e,P.underlying T=some (.slice e)∧szOf P e=some sz∧zeroD P e=some zs∧zs.length=sz:=by
  unfold zerosOf at h
  split at h
  · rename_i e sz' hA
    obtain⟨hA1,hA2⟩:=elemOf_ok hA
    split at h
    · rename_i zs' hz
      split at h
      · rename_i hl
        simp only[Option.some.injEq,Prod.mk.injEq] at h;obtain⟨rfl,rfl⟩:=h
        exact⟨e,hA1,hA2,hz,hl⟩
      · cases h
    · cases h
  · cases h
noncomputable def eqlE (P:Program) (gl:Nat→Option D) (op:BinOp) (T:TypeId) (s t:SV):Option (SV×Eff) :=
  match op,s.toD,t.toD with
  | .eql,some d,some d'=>@onlyIf _ (gl cleanAt≠none∧spanT P T=true∧keyD P T d=true∧keyD P T d'=true∧Apart d d') (Classical.propDecidable _) (.d (.v (.bool false)), .no)
  | _,_,_=>none
def buildV (n:Nat) (x:Option (List SV×Nat×Nat)) (l:Option (List (Nat×List SV))):Option (List SV×Nat) :=
  match x,l with
  | some (zs,sz,_),some l=>if n*sz≤16777216 then (fillL (fun i=>some (i*sz,sz)) ((List.range (n*sz)).map fun j=>zs.getD (j % sz) (.d (.v undef))) l).map fun cs=>(cs,sz) else none
  | _,_=>none
theorem buildV_ok {n:Nat}{x:Option (List SV×Nat×Nat)}{l:Option (List (Nat×List SV))}{cs:List SV}{sz:Nat} (h:buildV n x l=some (cs,sz)):∃ zs by_ ps,x=some (zs,sz,by_)∧l=some ps∧n*sz≤16777216∧fillL (fun i=>some (i*sz,sz)) ((List.range (n*sz)).map fun j=>zs.getD (j % sz) (.d (.v undef))) ps=some cs:=by
  unfold buildV at h
  split at h
  · split at h
    · simp only[Option.map_eq_some_iff,Prod.mk.injEq] at h
      obtain⟨cs',h1,rfl,rfl⟩:=h
      exact⟨_,_,_,rfl,rfl,by assumption,h1⟩
    · cases h
  · cases h
def rowEL (md:List Nat) (dst:Option Nat) (n:Nat) (x:List SV×Nat):Option (SV×Eff) :=
  if (dst.any fun d=>md.contains d)=true then none else some (.ls x.1 n, .no)
def rowE (md:List Nat) (dst:Option Nat) (n:Nat) (cs:List D):Option (SV×Eff) :=
  if (dst.any fun d=>md.contains d)=true then none else some (.fl cs n, .no)
def lookE (P:Program) (T:TypeId) (ok:Bool):Option SV→Option SV→Option (SV×Eff)
  | some (.d (.mp ks vs)),some (.d (.v (.string s)))=>(lookS P T ks (vs.map .d) s ok).map fun s=>(s, .no)
  | _,_=>none
noncomputable def evalOp (P:Program) (E:Env) (S:St) (id:Nat) (o:Oper):Option (SV×Eff) :=
  match o.op with
  | .move x=>(evalO E x).map fun s=>(s, .no)
  | .assign x=>(evalO E x).map fun s=>(s, .no)
  | .pick c x y=>match evalO E c,evalO E x,evalO E y with
    | some (.d (.v (.bool b))),some s,some t=>some (if b=true then s else t, .no)
    | _,_,_=>none
  | .alloc T=>(zeroCellsOf P T).map fun cs=>(.op id 0, .new cs)
  | .box _ x=>match evalO E x with
    | some s=>if s.one=true then some (.op id 0, .new s.cells) else none
    | none=>none
  | .build T ps=>match zeroCellsOf P T,partsS E ps.toList,sized P T with
    | some zs,some l,true=>(fillL (placeOf P T) zs l).map fun cs=>(.ag cs, .no)
    | _,_,_=>none
  | .buildSlice T n ps=>if (o.dst.any fun d=>S.md.contains d)=false∧(o.dst.any fun d=>S.md.contains (d+1000000))=true then (buildV n (makeOf P T) (partsS E ps.toList)).map fun p=>(.ls p.1 n, .no) else match zerosOf P T,partsD E ps.toList with
    | some (zs,sz),some l=>if n*sz≤16777216 then (fillL (fun i=>some (i*sz,sz)) ((List.range (n*sz)).map fun j=>zs.getD (j % sz) default) l).bind (rowE S.md o.dst n) else none
    | _,_=>(buildV n (makeOf P T) (partsS E ps.toList)).bind (rowEL S.md o.dst n)
  | .load T x=>match evalO E x with
    | some (.d (.pp cs off))=>(loadD P T cs off).map fun s=>(.d s, .no)
    | some (.op b off)=>match S.B b with
      | some cs=>(loadS P T cs off).map fun s=>(s, .no)
      | none=>none
    | _=>none
  | .store T x y=>match evalO E x,evalO E y,szOf P T with
    | some (.op b off),some s,some n=>match S.B b with
      | some cs=>onlyIf (s.one=true∧s.cells.length=n∧off+n≤cs.length) (.d (.v undef), .set b (cs.take off++s.cells++cs.drop (off+n)))
      | none=>none
    | _,_,_=>none
  | .nilCheck x=>match evalO E x with
    | some s=>if notNil s=true then some (s, .no) else none
    | none=>none
  | .binOp op T x y _=>match y with
    | .const c=>if isNil c=true then match evalO E x with
        | some s=>(evalNil P op T s c).map fun s=>(s, .no)
        | none=>none
      else match evalO E x,ofConst c with
        | some (.d (.v u)),some (.d (.v v))=>(binS P op T u v).map fun r=>(.d (.v r), .no)
        | _,_=>none
    | _=>match evalO E x,evalO E y with
      | some (.d (.v u)),some (.d (.v v))=>(binS P op T u v).map fun r=>(.d (.v r), .no)
      | some s,some t=>eqlE P S.gl op T s t
      | _,_=>none
  | .makeFunc fn first caps=>match argsS E first.toList,argsS E caps.toList with
    | some xs,some ys=>some (.fn fn xs ys, .no)
    | _,_=>none
  | .unOp op _ x=>match evalO E x with
    | some (.d (.v u))=>(unS op u).map fun r=>(.d (.v r), .no)
    | _=>none
  | .convert Ts Td x=>match evalO E x with
    | some s=>evalConv P id Ts Td s
    | none=>none
  | .makeSlice T x y=>match evalO E x,evalO E y with
    | some s,some t=>evalMake P S id o.dst T s t
    | _,_=>none
  | .slice T x lo hi none=>match evalO E x with
    | some s=>(evalSlice P E S T s lo hi).map fun s=>(s, .no)
    | none=>none
  | .field T x i=>match evalO E x,fieldTy P T i with
    | some (.ag cs),some (t,off)=>(loadS P t cs off).map fun s=>(s, .no)
    | some (.d (.agg cs)),some (t,off)=>(loadD P t cs off).map fun s=>(.d s, .no)
    | _,_=>none
  | .fieldAddr T x i=>match evalO E x,fieldOf P T i with
    | some (.d (.pp cs off)),some n=>some (.d (.pp cs (off+n)), .no)
    | some (.op b off),some n=>some (.op b (off+n), .no)
    | _,_=>none
  | .indexAddr T x y=>match evalO E x,evalO E y with
    | some s,some (.d (.v (.int _ i)))=>(evalIndexAddr P T s i).map fun s=>(s, .no)
    | _,_=>none
  | .index T x y=>match evalO E x,evalO E y,isString P T with
    | some (.d (.v (.string s))),some (.d (.v (.int _ i))),true=>onlyIf (0≤i∧i<s.size) (.d (.v (.int .u8 (s.data.toList.getD i.toNat 0).toNat)), .no)
    | _,_,_=>none
  | .makeInterface T x=>match evalO E x,isIface P T with
    | some s,some false=>some (mkIfc T s, .no)
    | _,_=>none
  | .typeAssert x _ A ok=>match evalO E x with
    | some s=>(evalAssert P A ok s).map fun s=>(s, .no)
    | none=>none
  | .extract x i=>match evalO E x with
    | some t=>(tupS t i).map fun s=>(s, .no)
    | none=>none
  | .lookup T x y ok=>lookE P T ok (evalO E x) (evalO E y)
  | .call c=>match c.callee,c.args.toList,c.argTypes.toList with
    | .builtin .len,[x],[T]=>match evalO E x with
      | some s=>(evalLen P s T).map fun s=>(s, .no)
      | none=>none
    | .builtin .append,[x,y],[T,T']=>match evalO E x,evalO E y with
      | some s,some t=>if T=T' then evalAppend P S id o.dst T s t else none
      | _,_=>none
    | .builtin b,[x,y],[_,_]=>match mmOf b,evalO E x,evalO E y with
      | some m,some s,some t=>(evalMM m s t).map fun s=>(s, .no)
      | _,_,_=>none
    | _,_,_=>none
  | _=>none
theorem byte_at {s:ByteArray}{i:Nat} (h:i<s.size):s.data.toList.getD i 0=s[i]:=by
  have h2:i<s.data.size:=h
  rw[List.getD_eq_getElem?_getD,Array.getElem?_toList,Array.getElem?_eq_getElem h2]
  rfl
set_option maxHeartbeats 3200000 in
theorem OpS.eval {id:Nat}{o:Oper}{s:SV}{e:Eff} (h:evalOp P E S id o=some (s,e)):OpS P id E S o s (S.app id e):=by
  unfold evalOp at h
  split at h
  · rename_i x ho
    simp only[Option.map_eq_some_iff,Prod.mk.injEq] at h;obtain⟨s',h1,rfl,rfl⟩:=h
    exact .quiet (fun m0 w0 G F a w hr=>does_move (.inl ho) hr h1)
  · rename_i x ho
    simp only[Option.map_eq_some_iff,Prod.mk.injEq] at h;obtain⟨s',h1,rfl,rfl⟩:=h
    exact .quiet (fun m0 w0 G F a w hr=>does_move (.inr ho) hr h1)
  · rename_i c x y ho
    split at h
    · rename_i b s1 s2 hc hx hy
      simp only[Option.some.injEq,Prod.mk.injEq] at h;obtain⟨rfl,rfl⟩:=h
      exact .quiet (fun m0 w0 G F a w hr=>does_pick ho hr hc (by cases b<;>simp[hx,hy]))
    · cases h
  · rename_i T ho
    simp only[Option.map_eq_some_iff,Prod.mk.injEq] at h;obtain⟨cs,h1,rfl,rfl⟩:=h
    exact .of_does (keeps_app _ _) (fun m0 w0 G F a w hr hid=>does_alloc ho hr hid h1)
  · rename_i T x ho
    split at h
    · rename_i s' h1
      split at h
      · rename_i h2
        simp only[Option.some.injEq,Prod.mk.injEq] at h;obtain⟨rfl,rfl⟩:=h
        exact .of_does (keeps_app _ _) (fun m0 w0 G F a w hr hid=>does_box ho hr hid h1 h2)
      · cases h
    · cases h
  · rename_i T ps ho
    split at h
    · rename_i zs l h1 h2 h3
      simp only[Option.map_eq_some_iff,Prod.mk.injEq] at h;obtain⟨cs,h4,rfl,rfl⟩:=h
      exact .quiet (fun m0 w0 G F a w hr=>does_build ho hr h1 h2 h3 h4)
    · cases h
  · rename_i T n ps ho
    split at h
    · simp only[Option.map_eq_some_iff] at h;obtain⟨⟨cs,sz⟩,h4,h⟩:=h
      obtain⟨zs,by_,l,hm,hp,hle,hf⟩:=buildV_ok h4
      obtain⟨e',i,g1,g2,g3,g4,g5,_⟩:=makeOf_ok hm
      simp only[Prod.mk.injEq] at h;obtain⟨rfl,rfl⟩:=h
      exact .quiet (fun m0 w0 G F a w hr=>does_buildSlice_ls ho hr g1 (by rw[szOf,g2];exact congrArg some g5) g3 (g4.trans g5) hle hp hf)
    split at h
    · rename_i zs sz l h1 h2
      split at h
      · rename_i hle
        simp only[Option.bind_eq_some_iff] at h;obtain⟨cs,h4,h⟩:=h
        obtain⟨e',g1,g2,g3,g4⟩:=zerosOf_ok h1
        unfold rowE at h
        split at h
        · cases h
        · simp only[Option.some.injEq,Prod.mk.injEq] at h;obtain⟨rfl,rfl⟩:=h
          exact .quiet (fun m0 w0 G F a w hr=>does_buildSlice ho hr g1 g2 g3 g4 hle h2 h4)
      · cases h
    · simp only[Option.bind_eq_some_iff] at h;obtain⟨⟨cs,sz⟩,h4,h⟩:=h
      obtain⟨zs,by_,l,hm,hp,hle,hf⟩:=buildV_ok h4
      obtain⟨e',i,g1,g2,g3,g4,g5,_⟩:=makeOf_ok hm
      unfold rowEL at h
      split at h
      · cases h
      · simp only[Option.some.injEq,Prod.mk.injEq] at h;obtain⟨rfl,rfl⟩:=h
        exact .quiet (fun m0 w0 G F a w hr=>does_buildSlice_ls ho hr g1 (by rw[szOf,g2];exact congrArg some g5) g3 (g4.trans g5) hle hp hf)
  · rename_i T x ho
    split at h
    · rename_i cs off h1
      simp only[Option.map_eq_some_iff,Prod.mk.injEq] at h;obtain⟨s',h2,rfl,rfl⟩:=h
      exact .quiet (fun m0 w0 G F a w hr=>does_load_pp ho hr h1 h2)
    · rename_i b off h1
      split at h
      · rename_i cs hb
        simp only[Option.map_eq_some_iff,Prod.mk.injEq] at h;obtain⟨s',h2,rfl,rfl⟩:=h
        exact .quiet (fun m0 w0 G F a w hr=>does_load_op ho hr h1 hb h2)
      · cases h
    · cases h
  · rename_i T x y ho
    split at h
    · rename_i b off s' n h1 h2 h3
      split at h
      · rename_i cs hb
        obtain⟨hc,h5⟩:=onlyIf_ok h
        simp only[Prod.mk.injEq] at h5;obtain⟨rfl,rfl⟩:=h5
        exact .of_does (keeps_app _ _) (fun m0 w0 G F a w hr hid=>(does_store ho hr h1 hb h2 hc.1 h3 hc.2.1 hc.2.2).less (fun b hb=>hb.1))
      · cases h
    · cases h
  · rename_i x ho
    split at h
    · rename_i s' h1
      split at h
      · rename_i h2
        simp only[Option.some.injEq,Prod.mk.injEq] at h;obtain⟨rfl,rfl⟩:=h
        exact .quiet (fun m0 w0 G F a w hr=>does_nilCheck ho hr h1 h2)
      · cases h
    · cases h
  · rename_i op T x y T' ho
    split at h
    · rename_i c
      split at h
      · split at h
        · rename_i s' h1
          simp only[Option.map_eq_some_iff,Prod.mk.injEq] at h;obtain⟨r,h3,rfl,rfl⟩:=h
          exact OpS.evalNil ho h1 h3
        · cases h
      · split at h
        · rename_i u v h1 h2
          simp only[Option.map_eq_some_iff,Prod.mk.injEq] at h;obtain⟨r,h3,rfl,rfl⟩:=h
          exact .quiet (fun m0 w0 G F a w hr=>does_bin ho hr h1 h2 h3)
        · cases h
    · split at h
      · rename_i u v h1 h2
        simp only[Option.map_eq_some_iff,Prod.mk.injEq] at h;obtain⟨r,h3,rfl,rfl⟩:=h
        exact .quiet (fun m0 w0 G F a w hr=>does_bin ho hr h1 h2 h3)
      · rename_i s' t' _ h1 h2
        unfold eqlE at h
        split at h
        · rename_i d d' h3 h4
          obtain⟨⟨c1,c2,c3,c4,c5⟩,h5⟩:=@onlyIf_ok _ _ (Classical.propDecidable _) _ _ h
          simp only[Prod.mk.injEq] at h5;obtain⟨rfl,rfl⟩:=h5
          exact .quiet (fun m0 w0 G F a w hr=>does_eql_apart ho hr c1 h1 h2 h3 h4 c2 c3 c4 c5)
        · cases h
      · cases h
  · rename_i fn first caps ho
    split at h
    · rename_i xs ys h1 h2
      simp only[Option.some.injEq,Prod.mk.injEq] at h;obtain⟨rfl,rfl⟩:=h
      exact .quiet (fun m0 w0 G F a w hr=>by
        obtain⟨a1,a2⟩:=argsS_ok hr h1
        obtain⟨b1,b2⟩:=argsS_ok hr h2
        exact does_makeFunc ho hr a1 a2 b1 b2)
    · cases h
  · rename_i op T x ho
    split at h
    · rename_i u h1
      simp only[Option.map_eq_some_iff,Prod.mk.injEq] at h;obtain⟨r,h3,rfl,rfl⟩:=h
      exact .quiet (fun m0 w0 G F a w hr=>does_un ho hr h1 h3)
    · cases h
  · rename_i Ts Td x ho
    split at h
    · rename_i s' h1
      exact OpS.evalConv ho h1 h
    · cases h
  · rename_i T x y ho
    split at h
    · rename_i s' t' h1 h2
      exact OpS.evalMake ho h1 h2 h
    · cases h
  · rename_i T x lo hi ho
    split at h
    · rename_i s' h1
      simp only[Option.map_eq_some_iff,Prod.mk.injEq] at h;obtain⟨r,h3,rfl,rfl⟩:=h
      exact OpS.evalSlice ho h1 h3
    · cases h
  · rename_i T x i ho
    split at h
    · rename_i cs t off h1 h2
      simp only[Option.map_eq_some_iff,Prod.mk.injEq] at h;obtain⟨s',h3,rfl,rfl⟩:=h
      unfold fieldTy at h2
      split at h2
      · rename_i fs hu
        split at h2
        · rename_i f hf
          simp only[Option.some.injEq,Prod.mk.injEq] at h2;obtain⟨rfl,rfl⟩:=h2
          exact .quiet (fun m0 w0 G F a w hr=>does_field_ag ho hr h1 hu hf h3)
        · cases h2
      · cases h2
    · rename_i cs t off h1 h2
      simp only[Option.map_eq_some_iff,Prod.mk.injEq] at h;obtain⟨s',h3,rfl,rfl⟩:=h
      unfold fieldTy at h2
      split at h2
      · rename_i fs hu
        split at h2
        · rename_i f hf
          simp only[Option.some.injEq,Prod.mk.injEq] at h2;obtain⟨rfl,rfl⟩:=h2
          exact .quiet (fun m0 w0 G F a w hr=>does_field_agg ho hr h1 hu hf h3)
        · cases h2
      · cases h2
    · cases h
  · rename_i T x i ho
    split at h
    · rename_i cs off n h1 h2
      simp only[Option.some.injEq,Prod.mk.injEq] at h;obtain⟨rfl,rfl⟩:=h
      exact .quiet (fun m0 w0 G F a w hr=>does_fieldAddr_pp ho hr h1 h2)
    · rename_i b off n h1 h2
      simp only[Option.some.injEq,Prod.mk.injEq] at h;obtain⟨rfl,rfl⟩:=h
      exact .quiet (fun m0 w0 G F a w hr=>does_fieldAddr_op ho hr h1 h2)
    · cases h
  · rename_i T x y ho
    split at h
    · rename_i s' k i h1 h2
      simp only[Option.map_eq_some_iff,Prod.mk.injEq] at h;obtain⟨r,h3,rfl,rfl⟩:=h
      exact OpS.evalIndexAddr ho h1 h2 h3
    · cases h
  · rename_i T x y ho
    split at h
    · rename_i b k i h1 h2 h3
      obtain⟨hi,h5⟩:=onlyIf_ok h
      simp only[Prod.mk.injEq] at h5;obtain⟨rfl,rfl⟩:=h5
      have:=OpS.quiet (P:=P) (id:=id) (E:=E) (S:=S) (o:=o) (fun m0 w0 G F a w hr=>does_index_string ho hr h1 h2 (isString_ok h3) hi.1 hi.2)
      rw[byte_at (by omega)]
      exact this
    · cases h
  · rename_i T x ho
    split at h
    · rename_i s' h1 h2
      simp only[Option.some.injEq,Prod.mk.injEq] at h;obtain⟨rfl,rfl⟩:=h
      unfold isIface at h2
      split at h2
      · cases h2
      · rename_i d hne hu
        exact .quiet (fun m0 w0 G F a w hr=>does_makeInterface ho hr h1 hu hne)
      · cases h2
    · cases h
  · rename_i x T A ok ho
    split at h
    · rename_i s' h1
      simp only[Option.map_eq_some_iff,Prod.mk.injEq] at h;obtain⟨r,h3,rfl,rfl⟩:=h
      exact OpS.evalAssert ho h1 h3
    · cases h
  · rename_i x i ho
    split at h
    · rename_i t h1
      simp only[Option.map_eq_some_iff,Prod.mk.injEq] at h;obtain⟨s',h3,rfl,rfl⟩:=h
      exact .quiet (fun m0 w0 G F a w hr=>does_extract ho hr h1 h3)
    · cases h
  · rename_i T x y ok ho
    unfold lookE at h
    split at h
    · rename_i ks vs t hx hy
      simp only[Option.map_eq_some_iff,Prod.mk.injEq] at h;obtain⟨s',h3,rfl,rfl⟩:=h
      exact .quiet (fun m0 w0 G F a w hr=>does_lookup_data ho hr hx hy h3)
    · cases h
  · rename_i c ho
    obtain⟨callee,args,tys⟩:=c
    simp only at h
    split at h
    · rename_i x T ha ht
      split at h
      · rename_i s' h1
        simp only[Option.map_eq_some_iff,Prod.mk.injEq] at h;obtain⟨r,h3,rfl,rfl⟩:=h
        exact OpS.evalLen (x:=x) (T:=T) (by rw[ho, ← Array.toArray_toList (xs:=args), ← Array.toArray_toList (xs:=tys),ha,ht]) h1 h3
      · cases h
    · rename_i x y T T' ha ht
      split at h
      · rename_i s' t' h1 h2
        split at h
        · rename_i hTT
          subst hTT
          exact OpS.evalAppend (x:=x) (y:=y) (T:=T) (by rw[ho, ← Array.toArray_toList (xs:=args), ← Array.toArray_toList (xs:=tys),ha,ht]) h1 h2 h
        · cases h
      · cases h
    · rename_i b x y T T' hno ha ht
      split at h
      · rename_i m s' t' h1 h2 h3
        simp only[Option.map_eq_some_iff,Prod.mk.injEq] at h;obtain⟨r,h4,rfl,rfl⟩:=h
        exact .quiet (fun m0 w0 G F a w hr=>does_mm (X:=x) (Y:=y) (Ts:=tys) (by rw[ho, ← Array.toArray_toList (xs:=args),ha]) hr h1 h2 h3 h4)
      · cases h
    · cases h
  · cases h
def lookV (P:Program) (gl:Nat→Option D) (ok:Bool) (T:TypeId) (K:SV→Eff→Prop):Option (List SV)→SV→Prop
  | some [.mc ks vs], .d (.v (.string s))=>∃ r,lookS P T ks vs s ok=some r∧K r .no
  | some [.mc ks vs],k=>∃ d kt e z,k.toD=some d∧Sh.mapKey P T=some (kt,e)∧gl cleanAt≠none∧keyD P kt d=true∧(∀ y∈ks,keyD P kt y=true)∧lookR P e none ok=some z∧K z .no ∧
      ∀ j (hj:j<ks.length) (hv:j<vs.length),¬ Apart ks[j] d→∀ r,lookR P e (some vs[j]) ok=some r→K r .no
  | _,_=>False
def lookX (P:Program) (S:St) (ok:Bool) (T:TypeId) (K:SV→Eff→Prop):Option SV→Option SV→Prop
  | some (.d (.mp ks vs)),some (.d (.v (.string s)))=>∃ r,lookS P T ks (vs.map .d) s ok=some r∧K r .no
  | some (.d (.v (.map none))),some (.d (.v (.string s)))=>∃ e r,Sh.mapOf P T=some e∧lookR P e none ok=some r∧K r .no
  | some (.mv b),some k=>lookV P S.gl ok T K (S.B b) k
  | _,_=>False
def updV (P:Program) (gl:Nat→Option D) (T:TypeId) (K:SV→Eff→Prop) (b:Nat) (v:SV):Option (List SV)→SV→Prop
  | some [.mc ks vs], .d (.v (.string s))=>∃ e c,Sh.mapOf P T=some e∧updK ks vs s v=some c∧K (.d (.v undef)) (.set b [c])
  | some [.mc ks vs],k=>∃ d kt e,k.toD=some d∧Sh.mapKey P T=some (kt,e)∧gl cleanAt≠none∧keyD P kt d=true∧(∀ y∈ks,keyD P kt y=true)∧K (.d (.v undef)) (.set b [.mc (ks++[d]) (vs++[v])]) ∧
      ∀ j (hj:j<ks.length),¬ Apart ks[j] d→K (.d (.v undef)) (.set b [.mc ks (vs.set j v)])
  | _,_=>False
def updX (P:Program) (S:St) (T:TypeId) (K:SV→Eff→Prop):Option SV→Option SV→Option SV→Prop
  | some (.mv b),some k,some v=>updV P S.gl T K b v (S.B b) k
  | _,_,_=>False
def entV (P:Program) (T:TypeId) (K:SV→Eff→Prop) (b:Nat) (s:ByteArray):Option (List SV)→Prop
  | some [.mc ks vs]=>∃ e r c,Sh.mapOf P T=some e∧entK P e ks vs s=some (r,c)∧K r (.set b [c])
  | _=>False
def entX (P:Program) (S:St) (T:TypeId) (K:SV→Eff→Prop):Option SV→Option SV→Prop
  | some (.mv b),some (.d (.v (.string s)))=>entV P T K b s (S.B b)
  | _,_=>False
def putV (K:SV→Eff→Prop) (b:Nat) (j:Int) (v:SV):Option (List SV)→Prop
  | some [.mc ks vs]=>0≤j∧j.toNat<vs.length∧K (.d (.v undef)) (.set b [.mc ks (vs.set j.toNat v)])
  | _=>False
def putX (S:St) (K:SV→Eff→Prop):Option SV→Option SV→Option SV→Prop
  | some (.mv b),some (.d (.v (.int .i64 j))),some v=>putV K b j v (S.B b)
  | _,_,_=>False
def rangeX (P:Program) (id:Nat) (T:TypeId) (K:SV→Eff→Prop):Option SV→Prop
  | some (.d (.mp ks vs))=>isMap P T=true∧K (.iv id) (.new [.ic ks vs []])
  | _=>False
def nextV (K:SV→Eff→Prop) (b:Nat):Option (List SV)→Prop
  | some [.ic ks vs seen]=>(∀ j (hk:j<ks.length) (hv:j<vs.length),j∉seen→K (.tu [.d (.v (.bool true)), .d ks[j], .d vs[j]]) (.set b [.ic ks vs (seen++[j])]))∧((∀ j,j<ks.length→j∈seen)→K (.tu [.d (.v (.bool false))]) .no)
  | _=>False
def nextX (S:St) (K:SV→Eff→Prop):Option SV→Prop
  | some (.iv b)=>nextV K b (S.B b)
  | _=>False
def entryV (K:SV→Eff→Prop):Option (List SV)→Prop
  | some [.ic ks vs seen]=>∃ j,seen.getLast?=some j∧∃ (hk:j<ks.length) (hv:j<vs.length),K (.tu [.d ks[j], .d vs[j]]) .no
  | _=>False
def entryX (S:St) (K:SV→Eff→Prop):Option SV→Prop
  | some (.iv b)=>entryV K (S.B b)
  | _=>False
def copyV (P:Program) (T:TypeId) (K:SV→Eff→Prop) (b off n:Nat):Option (List SV)→Option (List D×Nat)→Option (TypeId×Nat)→Prop
  | some cs,some (ds,m),some (_,sz)=>m≤n∧off+m*sz≤cs.length∧ds.length=m*sz∧0<m*sz∧K (.d (.v (.int .i64 m))) (.set b (cs.take off++ds.map .d++cs.drop (off+m*sz)))
  | _,_,_=>False
def copyX (P:Program) (S:St) (T:TypeId) (K:SV→Eff→Prop):Option SV→Option SV→Prop
  | some (.os b off n),some t=>copyV P T K b off n (S.B b) (rowS t) (elemOf P T)
  | some (.sk b n _),some t=>copyV P T K b 0 n (S.B b) (rowS t) (elemOf P T)
  | _,_=>False
def lenV (P:Program) (T:TypeId) (K:SV→Eff→Prop):Option (List SV)→Prop
  | some [.mc ks vs]=>isMap P T=true∧K (.d (.v (.int .i64 ks.length))) .no
  | _=>False
def lenX (P:Program) (S:St) (T:TypeId) (K:SV→Eff→Prop):Option SV→Prop
  | some (.mv b)=>lenV P T K (S.B b)
  | _=>False
def rowV' (id n:Nat) (K:SV→Eff→Prop):Option (List SV×Nat×Nat)→Option (List (Nat×List SV))→Prop
  | some (zs,sz,_),some l=>n*sz≤16777216∧∃ cs,fillL (fun i=>some (i*sz,sz)) ((List.range (n*sz)).map fun j=>zs.getD (j % sz) (.d (.v undef))) l=some cs∧n*sz≤cs.length∧K (.sk id n sz) (.new cs)
  | _,_=>False
def rowX (id n:Nat) (K:SV→Eff→Prop) (mk:Option (List SV×Nat×Nat)) (ps:Option (List (Nat×List SV))):Option (List D×Nat)→Option (List (Nat×List D))→Prop
  | some (zs,sz),some l=>n*sz≤16777216∧∃ cs,fillL (fun i=>some (i*sz,sz)) ((List.range (n*sz)).map fun j=>zs.getD (j % sz) default) l=some cs∧n*sz≤cs.length∧K (.sk id n sz) (.new (cs.map .d))
  | _,_=>rowV' id n K mk ps
def rowXX (c2:Bool) (id n:Nat) (K:SV→Eff→Prop) (mk:Option (List SV×Nat×Nat)) (ps:Option (List (Nat×List SV))) (zs:Option (List D×Nat)) (l:Option (List (Nat×List D))):Prop :=
  match c2 with | true=>rowV' id n K mk ps | false=>rowX id n K mk ps zs l
def evalX (P:Program) (E:Env) (S:St) (id:Nat) (o:Oper) (K:SV→Eff→Prop):Prop :=
  match o.op with
  | .makeMap T none=>K (.mv id) (.new [.mc [] []])
  | .buildSlice T n ps=>(o.dst.any fun d=>S.md.contains d)=true∧rowXX (o.dst.any fun d=>S.md.contains (d+1000000)) id n K (makeOf P T) (partsS E ps.toList) (zerosOf P T) (partsD E ps.toList)
  | .lookup T x y ok=>lookX P S ok T K (evalO E x) (evalO E y)
  | .mapUpdate T x y z=>updX P S T K (evalO E x) (evalO E y) (evalO E z)
  | .mapEntry T x y=>entX P S T K (evalO E x) (evalO E y)
  | .entryStore T x y z=>putX S K (evalO E x) (evalO E y) (evalO E z)
  | .range T x=>rangeX P id T K (evalO E x)
  | .next x false=>nextX S K (evalO E x)
  | .entry x=>entryX S K (evalO E x)
  | .call c=>match c.callee,c.args.toList,c.argTypes.toList with
    | .builtin .len,[x],[T]=>lenX P S T K (evalO E x)
    | .builtin .copy,[x,y],[T,T2]=>copyX P S T K (evalO E x) (evalO E y)
    | _,_,_=>False
  | _=>False
theorem OpX.of {id:Nat}{o:Oper}{Q:SV→Eff→Prop}{s:SV}{e:Eff} (hq:Q s e) (h:∀ (m0:Nat→Nat) (w0:World) (G:Gh) (F:Nat→Prop) (a:Act) (w:World),Rel m0 w0 G E S F a w→F id→Does P m0 w0 G E S F a w o s (S.app id e) (fun b=>F b∧b≠id)):OpX P id E S o Q :=
  fun m0 w0 G F a w hr hid=>⟨s,e,hq,h m0 w0 G F a w hr hid⟩
theorem OpX.same {id:Nat}{o:Oper}{Q:SV→Eff→Prop}{s:SV} (hq:Q s .no) (h:∀ (m0:Nat→Nat) (w0:World) (G:Gh) (F:Nat→Prop) (a:Act) (w:World),Rel m0 w0 G E S F a w→Does P m0 w0 G E S F a w o s S F):OpX P id E S o Q :=
  .of hq (fun m0 w0 G F a w hr hid=>(h m0 w0 G F a w hr).less (fun _ hb=>hb.1))
theorem OpX.sets {id b:Nat}{o:Oper}{Q:SV→Eff→Prop}{s:SV}{cs:List SV} (hq:Q s (.set b cs)) (h:∀ (m0:Nat→Nat) (w0:World) (G:Gh) (F:Nat→Prop) (a:Act) (w:World),Rel m0 w0 G E S F a w→Does P m0 w0 G E S F a w o s (S.set b cs) F):OpX P id E S o Q :=
  .of hq (fun m0 w0 G F a w hr hid=>(h m0 w0 G F a w hr).less (fun _ hb=>hb.1))
set_option maxHeartbeats 1600000 in
theorem OpX.eval {id:Nat}{o:Oper}{K:SV→Eff→Prop} (h:evalX P E S id o K):OpX P id E S o K:=by
  unfold evalX at h
  split at h
  · rename_i T ho
    exact .of h (fun m0 w0 G F a w hr hid=>does_makeMap ho hr hid)
  · rename_i T n ps ho
    obtain⟨_,h⟩:=h
    have hV:rowV' id n K (makeOf P T) (partsS E ps.toList)→OpX P id E S o K:=fun h=>by
      unfold rowV' at h
      split at h
      · rename_i zs sz by_ l h1 h2
        obtain⟨hle,cs,h3,h4,h5⟩:=h
        obtain⟨e',i,g1,g2,g3,g4,g5,_⟩:=makeOf_ok h1
        exact .of h5 (fun m0 w0 G F a w hr hid=>does_buildSlice_skV ho hr hid g1 (by rw[szOf,g2];exact congrArg some g5) g3 (g4.trans g5) hle h2 h3 h4)
      · exact h.elim
    unfold rowXX at h
    split at h
    · exact hV h
    unfold rowX at h
    split at h
    · rename_i zs sz l h1 h2
      obtain⟨hle,cs,h3,h4,h5⟩:=h
      obtain⟨e',g1,g2,g3,g4⟩:=zerosOf_ok h1
      exact .of h5 (fun m0 w0 G F a w hr hid=>does_buildSlice_sk ho hr hid g1 g2 g3 g4 hle h2 h3 h4)
    · exact hV h
  · rename_i T x y ok ho
    unfold lookX at h
    split at h
    · rename_i ks vs s hx hy
      obtain⟨r,h1,h2⟩:=h
      exact .same h2 (fun m0 w0 G F a w hr=>does_lookup_data ho hr hx hy h1)
    · rename_i s hx hy
      obtain⟨e,r,h1,h2,h3⟩:=h
      exact .same h3 (fun m0 w0 G F a w hr=>does_lookup_nil ho hr hx hy h1 h2)
    · rename_i b k hx hy
      unfold lookV at h
      split at h
      · rename_i ks vs s hb
        obtain⟨r,h1,h2⟩:=h
        exact .same h2 (fun m0 w0 G F a w hr=>does_lookup_var ho hr hx hb hy h1)
      · rename_i ks vs hb _
        obtain⟨d,kt,e,z,h1,h2,h3,h4,h5,h6,h7,h8⟩:=h
        intro m0 w0 G F a w hr hid
        rcases does_lookup_key ho hr h3 hx hb hy h1 h2 h4 h5 h6 with k | ⟨j,hj,hv,hap,r,hr',k⟩
        · exact⟨_,_,h7,k.less (fun _ hb=>hb.1)⟩
        · exact⟨_,_,h8 j hj hv hap r hr',k.less (fun _ hb=>hb.1)⟩
      · exact h.elim
    · exact h.elim
  · rename_i T x y z ho
    unfold updX at h
    split at h
    · rename_i b k v hx hy hz
      unfold updV at h
      split at h
      · rename_i ks vs s hb
        obtain⟨e,c,h1,h2,h3⟩:=h
        exact .sets h3 (fun m0 w0 G F a w hr=>does_mapUpdate ho hr hx hb hy hz h1 h2)
      · rename_i ks vs hb _
        obtain⟨d,kt,e,h1,h2,h3,h4,h5,h6,h7⟩:=h
        intro m0 w0 G F a w hr hid
        rcases does_update_key ho hr h3 hx hb hy h1 hz h2 h4 h5 with k | ⟨j,hj,hap,k⟩
        · exact⟨_, .set b _,h6,k.less (fun _ hb=>hb.1)⟩
        · exact⟨_, .set b _,h7 j hj hap,k.less (fun _ hb=>hb.1)⟩
      · exact h.elim
    · exact h.elim
  · rename_i T x y ho
    unfold entX at h
    split at h
    · rename_i b s hx hy
      unfold entV at h
      split at h
      · rename_i ks vs hb
        obtain⟨e,r,c,h1,h2,h3⟩:=h
        exact .sets h3 (fun m0 w0 G F a w hr=>does_mapEntry ho hr hx hb hy h1 h2)
      · exact h.elim
    · exact h.elim
  · rename_i T x y z ho
    unfold putX at h
    split at h
    · rename_i b j v hx hy hz
      unfold putV at h
      split at h
      · rename_i ks vs hb
        obtain⟨h0,h1,h2⟩:=h
        refine .sets h2 (fun m0 w0 G F a w hr=>does_entryStore ho hr hx hb (j:=j.toNat) ?_ hz h1)
        rw[hy,Int.toNat_of_nonneg h0]
      · exact h.elim
    · exact h.elim
  · rename_i T x ho
    unfold rangeX at h
    split at h
    · rename_i ks vs hx
      exact .of h.2 (fun m0 w0 G F a w hr hid=>does_range ho hr hid hx h.1)
    · exact h.elim
  · rename_i x ho
    unfold nextX at h
    split at h
    · rename_i b hx
      unfold nextV at h
      split at h
      · rename_i ks vs seen hb
        intro m0 w0 G F a w hr hid
        rcases does_next ho hr hx hb with ⟨j,hk,hv,hs,k⟩ | ⟨hall,k⟩
        · exact⟨_, .set b _,h.1 j hk hv hs,k.less (fun _ hb=>hb.1)⟩
        · exact⟨_,_,h.2 hall,k.less (fun _ hb=>hb.1)⟩
      · exact h.elim
    · exact h.elim
  · rename_i x ho
    unfold entryX at h
    split at h
    · rename_i b hx
      unfold entryV at h
      split at h
      · rename_i ks vs seen hb
        obtain⟨j,hl,hk,hv,h1⟩:=h
        obtain⟨l,rfl⟩:∃ l,seen=l++[j]:=List.getLast?_eq_some_iff.1 hl
        exact .same h1 (fun m0 w0 G F a w hr=>does_entry ho hr hx hb hk hv)
      · exact h.elim
    · exact h.elim
  · rename_i c ho
    obtain⟨callee,args,tys⟩:=c
    simp only at h
    split at h
    · rename_i x T ha ht
      unfold lenX at h
      split at h
      · rename_i b hx
        unfold lenV at h
        split at h
        · rename_i ks vs hb
          refine .same h.2 (fun m0 w0 G F a w hr=>?_)
          obtain⟨B,hg,e⟩:=(evalO_ok hr hx).mv_inv
          obtain⟨es,h1,h2,_⟩:=hr.mapOf hb hg
          rw[← h2]
          exact does_len_map (T:=T) (X:=x) (by rw[ho, ← Array.toArray_toList (xs:=args), ← Array.toArray_toList (xs:=tys),ha,ht]) hr e h1 h.1
        · exact h.elim
      · exact h.elim
    · rename_i x y T T2 ha ht
      unfold copyX at h
      split at h
      · rename_i b off n t hx hy
        unfold copyV at h
        split at h
        · rename_i cs ds m e sz hb hr2 hT
          obtain⟨h1,h2,h3,h4,h5⟩:=h
          obtain⟨hT1,hT2⟩:=elemOf_ok hT
          exact .sets h5 (fun m0 w0 G F a w hr=>does_copy (T:=T) (T2:=T2) (x:=x) (y:=y) (by rw[ho, ← Array.toArray_toList (xs:=args), ← Array.toArray_toList (xs:=tys),ha,ht]) hr (evalO_ok hr hx) hb hy hr2 hT1 hT2 h1 h2 h3 h4)
        · exact h.elim
      · rename_i b n sz' t hx hy
        unfold copyV at h
        split at h
        · rename_i cs ds m e sz hb hr2 hT
          obtain⟨h1,h2,h3,h4,h5⟩:=h
          obtain⟨hT1,hT2⟩:=elemOf_ok hT
          exact .sets h5 (fun m0 w0 G F a w hr=>does_copy (T:=T) (T2:=T2) (x:=x) (y:=y) (by rw[ho, ← Array.toArray_toList (xs:=args), ← Array.toArray_toList (xs:=tys),ha,ht]) hr (evalO_ok hr hx).sk_os hb hy hr2 hT1 hT2 h1 h2 h3 h4)
        · exact h.elim
      · exact h.elim
    · exact h.elim
  · exact h.elim
end
end Go.Sh
namespace Go.Sh
open Go.RowKit (Below)
section
variable {P:Program}{E E':Env}{S S':St}
inductive CallK where
  | fn (g:FuncId) (xs:List Operand)
  | inv (x:Operand) (name:String) (xs:List Operand)
  | dyn (x:Operand) (xs:List Operand)
def callOf:Op→Option CallK
  | .call { callee:=.value (.func g),args:=xs, .. }=>some (.fn g xs.toList)
  | .call { callee:=.invoke x name,args:=xs, .. }=>some (.inv x name xs.toList)
  | .call { callee:=.value (.tmp t),args:=xs, .. }=>some (.dyn (.tmp t) xs.toList)
  | _=>none
theorem callOf_fn {op:Op}{g:FuncId}{xs:List Operand} (h:callOf op=some (.fn g xs)):∃ ts,op=.call { callee:=.value (.func g),args:=xs.toArray,argTypes:=ts }:=by
  unfold callOf at h
  split at h
  · rename_i g' ys ts;simp only[Option.some.injEq,CallK.fn.injEq] at h;obtain⟨rfl,rfl⟩:=h;exact⟨ts,by simp⟩
  · cases h
  · cases h
  · cases h
theorem callOf_inv {op:Op}{x:Operand}{name:String}{xs:List Operand} (h:callOf op=some (.inv x name xs)):∃ ts,op=.call { callee:=.invoke x name,args:=xs.toArray,argTypes:=ts }:=by
  unfold callOf at h
  split at h
  · cases h
  · rename_i x' n' ys ts;simp only[Option.some.injEq,CallK.inv.injEq] at h;obtain⟨rfl,rfl,rfl⟩:=h;exact⟨ts,by simp⟩
  · cases h
  · cases h
theorem callOf_dyn {op:Op}{x:Operand}{xs:List Operand} (h:callOf op=some (.dyn x xs)):∃ ts,op=.call { callee:=.value x,args:=xs.toArray,argTypes:=ts }:=by
  unfold callOf at h
  split at h
  · cases h
  · cases h
  · rename_i t ys ts;simp only[Option.some.injEq,CallK.dyn.injEq] at h;obtain⟨rfl,rfl⟩:=h;exact⟨ts,by simp⟩
  · cases h
def foldF {X:Type} (f:Nat→X→X) (L:Nat→Bool):Nat→X→X
  | 0,x=>x
  | n+1,x=>if L n=true then f n (foldF f L n x) else foldF f L n x
theorem foldF_congr {X:Type}{f:Nat→X→X}{L M:Nat→Bool}:∀ {n:Nat}{x:X},(∀ j,j<n→(∀ y,f j y=y)∨L j=M j)→foldF f L n x=foldF f M n x
  | 0,x,h=>rfl
  | n+1,x,h=>by
    have ih:=foldF_congr (x:=x) fun j hj=>h j (Nat.lt_succ_of_lt hj)
    simp only[foldF]
    rcases h n (Nat.lt_succ_self n) with h1 | h1
    · rw[ih]
      by_cases a:L n=true<;>by_cases b:M n=true<;>simp[a,b,h1]
    · rw[h1,ih]
theorem foldF_insert {X:Type}{f:Nat→X→X}{L:Nat→Bool}{i:Nat}:∀ {n:Nat}{x:X},i<n→L i=false→(∀ j,i<j→j<n→L j=true→∀ y,f j (f i y)=f i (f j y)) →
    foldF f (fun j=>L j || j == i) n x=f i (foldF f L n x)
  | 0,x,h,_,_=>by omega
  | n+1,x,h,hi,hc=>by
    simp only[foldF]
    by_cases e:n=i
    · subst e
      have:foldF f (fun j=>L j || j == n) n x=foldF f L n x:=foldF_congr fun j hj=>.inr (by simp;omega)
      rw[if_pos (by simp),if_neg (by simp[hi]),this]
    · have ih:=foldF_insert (x:=x) (show i<n by omega) hi (fun j h1 h2=>hc j h1 (by omega))
      rw[ih]
      by_cases a:L n=true
      · rw[if_pos (by simp[a]),if_pos a]
        exact hc n (by omega) (by omega) a _
      · rw[if_neg (by simp[a];omega),if_neg a]
def maskOf (ms:List Nat) (o:Oper):Nat:=o.after.toList.foldl (fun s e=>if Region.binds .any e=true then s ||| 2 ^ e.on ||| ms.getD e.on 0 else s) 0
def masksFrom:List Nat→List Oper→List Nat
  | ms,[]=>ms
  | ms,o::l=>masksFrom (ms++[maskOf ms o]) l
def masks (ops:List Oper):List Nat:=masksFrom [] ops
theorem masksFrom_get:∀ (l:List Oper) (ms:List Nat),(∀ j,j<ms.length→(masksFrom ms l).getD j 0=ms.getD j 0) ∧
    ∀ k (h:k<l.length),∃ ps:List Nat,ps.length=ms.length+k∧(∀ j,j<ps.length→(masksFrom ms l).getD j 0=ps.getD j 0)∧(masksFrom ms l).getD (ms.length+k) 0=maskOf ps l[k]
  | [],ms=>⟨fun j hj=>rfl,fun k h=>by simp at h⟩
  | o::l,ms=>by
    obtain⟨h1,h2⟩:=masksFrom_get l (ms++[maskOf ms o])
    have e1:∀ j,j<ms.length→(ms++[maskOf ms o]).getD j 0=ms.getD j 0:=fun j hj=>by
      rw[List.getD_eq_getElem?_getD,List.getD_eq_getElem?_getD,List.getElem?_append_left hj]
    refine⟨fun j hj=>?_,fun k hk=>?_⟩
    · simp only[masksFrom]
      rw[h1 j (by simp;omega),e1 j hj]
    · cases k with
      | zero =>
        refine⟨ms,by simp,fun j hj=>?_,?_⟩
        · simp only[masksFrom]
          rw[h1 j (by simp;omega),e1 j hj]
        · simp only[masksFrom,Nat.add_zero]
          rw[h1 ms.length (by simp)]
          simp
      | succ k =>
        obtain⟨ps,p1,p2,p3⟩:=h2 k (by simpa using hk)
        refine⟨ps,by simp at p1;omega,fun j hj=>by simp only[masksFrom];exact p2 j hj,?_⟩
        simp only[masksFrom,List.getElem_cons_succ]
        rw[← p3]
        simp[Nat.add_assoc,Nat.add_comm 1]
theorem maskOf_bit {ms:List Nat}{o:Oper}{j:Nat} (h:(maskOf ms o).testBit j=true):∃ e∈o.after.toList,Region.binds .any e=true∧(e.on=j∨(ms.getD e.on 0).testBit j=true):=by
  unfold maskOf at h
  have key:∀ (l:List Edge) (s:Nat),(l.foldl (fun s e=>if Region.binds .any e=true then s ||| 2 ^ e.on ||| ms.getD e.on 0 else s) s).testBit j=true→s.testBit j=true∨∃ e∈l,Region.binds .any e=true∧(e.on=j∨(ms.getD e.on 0).testBit j=true):=by
    intro l
    induction l with
    | nil=>intro s hs;exact .inl hs
    | cons e l ih =>
      intro s hs
      rw[List.foldl_cons] at hs
      rcases ih _ hs with h1 | ⟨e',h1,h2⟩
      · split at h1
        · rename_i hb
          simp only[Nat.testBit_or,Bool.or_eq_true] at h1
          rcases h1 with (h1 | h1) | h1
          · exact .inl h1
          · rw[Nat.testBit_two_pow] at h1
            exact .inr ⟨e,List.mem_cons_self ..,hb, .inl (by simpa using h1)⟩
          · exact .inr ⟨e,List.mem_cons_self ..,hb, .inr h1⟩
        · exact .inl h1
      · exact .inr ⟨e',List.mem_cons_of_mem _ h1,h2⟩
  rcases key _ _ h with h1 | h1
  · simp at h1
  · exact h1
def anc (ops:List Oper) (i j:Nat):Bool:=((masks ops).getD i 0).testBit j
theorem anc_step {ops:List Oper}{i j:Nat} (hi:i<ops.length) (h:anc ops i j=true):∃ e∈(ops[i]).after.toList,Region.binds .any e=true∧(e.on=j∨(e.on<i∧anc ops e.on j=true)):=by
  unfold anc masks at h
  obtain⟨ps,p1,p2,p3⟩:=(masksFrom_get ops []).2 i hi
  simp only[List.length_nil,Nat.zero_add] at p1 p3
  rw[p3] at h
  obtain⟨e,h1,h2,h3⟩:=maskOf_bit h
  refine⟨e,h1,h2,h3.imp id (fun h4=>?_)⟩
  have hlt:e.on<ps.length:=by
    rcases Nat.lt_or_ge e.on ps.length with h5 | h5
    · exact h5
    · rw[List.getD_eq_getElem?_getD,List.getElem?_eq_none h5] at h4
      simp at h4
  refine⟨by omega,?_⟩
  unfold anc masks
  rw[p2 _ hlt]
  exact h4
structure Mem where
  rB:Bool
  wB:Bool
  rT:Bool
  wT:Bool
  /-- it makes one of its own number alone -/
  own:Bool
def memOf:Op→Mem
  | .alloc _ | .box ..=>⟨false,true,false,false,true⟩
  | .makeSlice ..=>⟨false,true,false,true,true⟩
  | .convert ..=>⟨false,false,false,true,true⟩
  | .load ..=>⟨true,false,false,false,false⟩
  | .store ..=>⟨true,true,false,false,false⟩
  | .call { callee:=.builtin .append, .. }=>⟨true,true,true,true,false⟩
  | _=>⟨false,false,false,false,false⟩
def looksAt (ops:Array Oper) (o:Oper):List Nat :=
  (o.op.operands.toList.filterMap fun | .tmp t=>some t | _=>none) ++
  (match o.guard with
   | some (g,_)=>((ops[g]?).bind (·.dst)).toList
   | none=>[])
def isCall (op:Op):Bool:=(callOf op).isSome
def touches (op:Op):Bool:=(memOf op).rB || (memOf op).wB || (memOf op).rT || (memOf op).wT
def cmp (ops:List Oper) (i j:Nat):Bool:=anc ops i j || anc ops j i
def loudAt (ops:List Oper) (i:Nat):Bool :=
  decide (i<ops.length)&&(List.range ops.length).all fun j=>j == i || cmp ops i j || !((ops[j]?).map fun o=>isCall o.op || touches o.op).getD true
def clash (a b:Mem):Bool :=
  (a.rB&&b.wB) || (b.rB&&a.wB) || (a.rT&&b.wT) || (b.rT&&a.wT) || (a.wB&&b.wB && !(a.own&&b.own)) || (a.wT&&b.wT && !(a.own&&b.own))
def addrX:Op→Option Operand
  | .load _ x=>some x
  | .store _ x _=>some x
  | _=>none
def refOf:Option SV→Option Nat
  | some (.op b _)=>some b
  | _=>none
def addrB (E:Env) (op:Op):Option Nat:=match addrX op with | some x=>refOf (evalO E x) | none=>none
def apart:Option Nat→Option Nat→Prop
  | some b,some c=>b≠c
  | _,_=>False
abbrev Spl:=List ((Nat×Nat)×(Nat×Nat))
def SepT:Spl→Env→Prop
  | [],_=>True
  | (x,y)::l,E=>apart (refOf (E x.2)) (refOf (E y.2))∧SepT l E
theorem SepT.of:∀ {sp:Spl}{E:Env},SepT sp E→∀ p∈sp,apart (refOf (E p.1.2)) (refOf (E p.2.2))
  | (x,y)::l,E,h,p,hp=>by
    rcases List.mem_cons.1 hp with e | hp
    · subst e;exact h.1
    · exact SepT.of h.2 p hp
abbrev Old:=List ((Nat×Nat)×Nat)
def below:Nat→Option Nat→Prop
  | n,some b=>b<n
  | _,none=>False
def OldT:Old→Nat→Env→Prop
  | [],_,_=>True
  | (x,_)::l,n,E=>below n (refOf (E x.2))∧OldT l n E
theorem OldT.of:∀ {ol:Old}{n:Nat}{E:Env},OldT ol n E→∀ p∈ol,below n (refOf (E p.1.2))
  | (x,y)::l,n,E,h,p,hp=>by
    rcases List.mem_cons.1 hp with e | hp
    · subst e;exact h.1
    · exact OldT.of h.2 p hp
def isNew:Op→Bool
  | .alloc _ | .box ..=>true
  | _=>false
def rootOf (ops:Array Oper):Nat→Nat→Option Nat
  | 0,t=>some t
  | n+1,t=>match ops[n]? with
    | none=>none
    | some o=>if o.dst=some t then (match o.guard,o.op with
        | none, .move (.tmp u)=>rootOf ops n u
        | none, .fieldAddr _ (.tmp u) _=>rootOf ops n u
        | none, .nilCheck (.tmp u)=>rootOf ops n u
        | _,_=>none) else rootOf ops n t
def spAt (ops:Array Oper) (x:Nat×Nat):Bool:=match ops[x.1]? with
  | some o=>match addrX o.op with
    | some (.tmp t)=>decide (t<globalsAt)&&rootOf ops x.1 t == some x.2
    | _=>false
  | none=>false
def isLoad:Op→Bool
  | .load ..=>true
  | _=>false
def earOk (ops:Array Oper) (i j:Nat):Bool:=((ops[i]?).map fun o=>isNew o.op).getD false&&((ops[j]?).map fun o=>isLoad o.op).getD false&&(List.range j).all fun q=>!((ops[q]?).map fun o=>isCall o.op).getD true
def freshRow (ops:Array Oper):Nat→Nat→Bool
  | 0,_=>false
  | n+1,t=>match ops[n]? with
    | none=>false
    | some o=>if o.dst=some t then (match o.guard,o.op with
        | none, .buildSlice ..=>true
        | _,_=>false) else freshRow ops n t
def isMaker (ops:Array Oper) (j:Nat):Bool:=match ops[j]? with
  | some o=>isNew o.op || (match o.op with
    | .call { callee:=.builtin .append,args:=xs, .. }=>match xs.toList with
      | [.tmp t,_]=>decide (t<globalsAt)&&freshRow ops j t
      | _=>false
    | _=>false)
  | none=>false
def latOk (ops:Array Oper) (i j:Nat):Bool:=((ops[i]?).map fun o=>isLoad o.op).getD false&&isMaker ops j
def pairOk (opsA:Array Oper) (ops:List Oper) (sp:Spl) (ol:Old) (i j:Nat):Bool :=
  match ops[i]?,ops[j]? with
  | some a,some b=>!(a.dst.isSome&&a.dst == b.dst)&&(cmp ops i j || (!(b.dst.any fun d=>(looksAt opsA a).contains d) && !(a.dst.any fun d=>(looksAt opsA b).contains d)&&(!clash (memOf a.op) (memOf b.op) || (sp.any fun p=>p.1.1 == i&&p.2.1 == j) || (ol.any fun p=>p.1.1 == i&&p.2 == j || p.1.1 == j&&p.2 == i) || earOk opsA i j || latOk opsA i j)))
  | _,_=>true
def drawOk (P:Program) (ops:Array Oper) (sp:Spl) (ol:Old):Bool :=
  P.follows .mixedOrders&&(ops.toList.all fun o=>match o.op with | .select ..=>false | _=>true) &&
  ((List.range ops.size).all fun i=>(((ops[i]?).map (·.after.toList)).getD []).all fun e=>!Region.binds .any e || e.on<i) &&
  ((List.range ops.size).all fun i=>(List.range i).all fun j=>pairOk ops ops.toList sp ol i j)&&(sp.all fun p=>spAt ops p.1&&spAt ops p.2)&&ol.all fun p=>spAt ops p.1&&((ops[p.2]?).map fun o=>isNew o.op).getD false
def rootAt (ops:Array Oper) (j:Nat):Option Nat:=match ops[j]? with
  | some o=>match addrX o.op with
    | some (.tmp t)=>if t<globalsAt then rootOf ops j t else none
    | _=>none
  | none=>none
def rootFree (ops:Array Oper) (j:Nat):Bool:=match rootAt ops j with
  | some s=>ops.toList.all fun o=>!(o.dst == some s)
  | none=>false
def freeAt (ops:Array Oper) (i:Nat):Bool :=
  decide (i<ops.size)&&(List.range ops.size).all fun j=>j == i || cmp ops.toList i j || !((ops[j]?).map fun o=>isCall o.op || touches o.op).getD true || ((ops[j]?).map fun o=>isNew o.op || (isLoad o.op&&rootFree ops j)).getD false
def oldOf (ops:Array Oper) (i:Nat):Old:=(List.range ops.size).filterMap fun j=>if (j == i || cmp ops.toList i j)=true then none else if ((ops[j]?).map fun o=>isLoad o.op).getD false=true then (rootAt ops j).map fun s=>((j,s),i) else none
def calmAt (ops:Array Oper) (i:Nat):Bool:=freeAt ops i&&(List.range ops.size).all fun j=>j == i || cmp ops.toList i j || !((ops[j]?).map fun o=>isNew o.op).getD false
def drawLo (ops:Array Oper) (i:Nat):Bool:=if i<ops.size then loudAt ops.toList i else if i=ops.size then false else if (i - (ops.size+1)) % 2=0 then freeAt ops ((i - (ops.size+1)) / 2) else calmAt ops ((i - (ops.size+1)) / 2)
def sameB (S S':St):Option Nat→Prop
  | some b=>S'.B b=S.B b
  | none=>False
def CalmT:Old→Env→St→St→Prop
  | [],_,_,_=>True
  | (x,_)::l,E,S,S'=>sameB S S' (refOf (E x.2))∧CalmT l E S S'
theorem CalmT.of:∀ {ol:Old}{E:Env}{S S':St},CalmT ol E S S'→∀ p∈ol,sameB S S' (refOf (E p.1.2))
  | (x,y)::l,E,S,S',h,p,hp=>by
    rcases List.mem_cons.1 hp with e | hp
    · subst e;exact h.1
    · exact CalmT.of h.2 p hp
def Br (b:Bool) (x y:Prop):Prop:=(b=true→x)∧(b=false→y)
structure Lo where
  loud:Bool
  free:Prop
  base:Nat
  top:Nat
  /-- one that leaves what is read beside it -/
  calm:St→St→Prop
structure OwnK (P:Program) (g:FuncId) (ss:List SV) (S:St) (base top:Nat) (r:SV) (fB:(Nat→Option (List SV))→(Nat→Option (List SV))) (m:Nat):Prop where
  call:∀ S1:St,S1.n=S.n→S1.nx=S.nx→S1.gl=S.gl→S1.md=S.md→S1.T=S.T→(∀ b,b<base→S1.B b=S.B b)→LCall P g ss S1 r { S1 with B:=fB S1.B,nx:=m }
  loc:∀ B q cs,q<top→fB (upd B q cs)=upd (fB B) q cs
  keep:∀ B b,b<top→fB B b=B b
  pw:∀ B C b,B b=C b→fB B b=fB C b
def Callv (lo:Lo) (P:Program) (g:FuncId) (ss:List SV) (S:St) (K:SV→St→Prop):Prop :=
  (∃ ds r,toDs ss=some ds∧PCall P S.gl g ds r∧K (.d r) S)∨(lo.loud=true∧∃ r S',LCall P g ss S r S'∧K r S') ∨
  (lo.free∧∃ r fB m,OwnK P g ss S lo.base lo.top r fB m∧K r { S with B:=fB S.B,nx:=m }) ∨
  (∃ r S',lo.calm S S'∧LCall P g ss S r S'∧K r S')
def loAt (lo:Nat→Bool) (ops:Array Oper) (base i:Nat) (E:Env):Lo:=⟨lo i,lo ops.size=false∧lo (ops.size+1+2*i)=true∧OldT (oldOf ops i) base E,base,base+ops.size,fun S S'=>lo ops.size=false∧lo (ops.size+1+(2*i+1))=true∧CalmT (oldOf ops i) E S S'⟩
def Invk (P:Program) (t:TypeId) (y:D) (name:String) (ss:List SV) (S:St) (K:SV→Prop):Prop :=
  ∃ g ds r,methOf P t name=some g∧toDs ss=some ds∧PCall P S.gl g (y::ds) r∧K (.d r)
def dstOk (d:Option Nat) (n:Nat):Bool:=match d with | some k=>decide (k<n) | none=>true
theorem dstOk_ok {d:Option Nat}{n:Nat} (h:dstOk d n=true):∀ k,d=some k→k<n:=by
  intro k e;subst e;simpa[dstOk] using h
def Op1 (r:Option (SV×Eff)) (K:SV→Eff→Prop):Prop:=match r with | some (s,e)=>K s e | none=>False
def ArgK (r:Option (List SV)) (K:List SV→Prop):Prop:=match r with | some ss=>K ss | none=>False
def RecK (r:Option SV) (K:TypeId→D→Prop):Prop:=match r with | some (.d (.ifc t y))=>K t y | _=>False
def YvK (r:Option SV) (KY:Nat→Prop):Prop:=match r with | some (.yv y)=>KY y | _=>False
def FnK (r:Option SV) (K:FuncId→List SV→List SV→Prop) (KY:Nat→Prop):Prop:=match r.bind fnS with | some (g,fs,cs)=>K g fs cs | none=>YvK r KY
def Want (r:Option Bool) (x y:Prop):Prop:=match r with | some b=>Br b x y | none=>False
def VL (lo:Nat→Bool) (P:Program) (ops:Array Oper) (base:Nat):Nat→List Oper→Env→St→(Env→St→Prop)→Prop
  | _,[],E,S,Q=>Q E S
  | i,o::l,E,S,Q=>dstOk o.dst S.n=true∧Want (wantS ops E o) (match callOf o.op with
        | some (.fn g xs)=>ArgK (argsS E xs) (fun ss=>Callv (loAt lo ops base i E) P g ss S (fun r S'=>VL lo P ops base (i+1) l (E.put o.dst r) S' Q))
        | some (.inv x name xs)=>RecK (evalO E x) (fun t y=>ArgK (argsS E xs) (fun ss=>Invk P t y name ss S (fun r=>VL lo P ops base (i+1) l (E.put o.dst r) S Q)))
        | some (.dyn x xs)=>FnK (evalO E x) (fun g fs cs=>ArgK (argsS E xs) (fun ss=>Callv ⟨lo ops.size,False,0,0,fun _ _=>False⟩ P g (fs++ss++cs) S (fun r S'=>VL lo P ops base (i+1) l (E.put o.dst r) S' Q))) (fun y=>lo ops.size=true∧ArgK (argsS E xs) (fun ss=>∃ r S',YCall P y ss S r S'∧VL lo P ops base (i+1) l (E.put o.dst r) S' Q))
        | none=>Op1 (evalOp P E S (base+i) o) (fun s e=>VL lo P ops base (i+1) l (E.put o.dst s) (S.app (base+i) e) Q)∨(lo ops.size=true∧evalX P E S (base+i) o (fun s e=>VL lo P ops base (i+1) l (E.put o.dst s) (S.app (base+i) e) Q))) (VL lo P ops base (i+1) l (E.put o.dst (.d (.v undef))) S Q)
structure Out where
  w:Bool
  s:SV
  fB:(Nat→Option (List SV))→(Nat→Option (List SV))
  fT:(Nat→Option (Nat×Nat))→(Nat→Option (Nat×Nat))
  fx:Nat→Nat
def St.out (S:St) (o:Out):St:={ S with B:=o.fB S.B,T:=o.fT S.T,nx:=o.fx S.nx }
def effB (id:Nat):Eff→(Nat→Option (List SV))→(Nat→Option (List SV))
  | .no,B=>B
  | .new cs,B=>upd B id cs
  | .set b cs,B=>upd B b cs
  | .tip _ _ _,B=>B
  | .mov b cs,B=>upd (fun x=>if x=b then none else B x) id cs
def effT:Eff→(Nat→Option (Nat×Nat))→(Nat→Option (Nat×Nat))
  | .tip i k sz,T=>upd T i (k,sz)
  | _,T=>T
theorem app_out (id:Nat) (e:Eff) (w:Bool) (s:SV):S.out ⟨w,s,effB id e,effT e,fun x=>x⟩=S.app id e:=by cases e<;>rfl
inductive How (lo:Lo) (P:Program) (id:Nat) (o:Oper) (E:Env) (S:St):Out→Prop
  | op {s:SV} {e:Eff} (hc:callOf o.op=none) (h:evalOp P E S id o=some (s,e)):How lo P id o E S ⟨true,s,effB id e,effT e,fun x=>x⟩
  | call {g:FuncId} {xs:List Operand} {ss:List SV} {ds:List D} {r:D} (hc:callOf o.op=some (.fn g xs)) (ha:argsS E xs=some ss) (hd:toDs ss=some ds) (h:PCall P S.gl g ds r):How lo P id o E S ⟨true, .d r,fun x=>x,fun x=>x,fun x=>x⟩
  | inv {x:Operand} {name:String} {xs:List Operand} {ss:List SV} {t:TypeId} {y:D} {ds:List D} {g:FuncId} {r:D} (hc:callOf o.op=some (.inv x name xs)) (hx:evalO E x=some (.d (.ifc t y))) (ha:argsS E xs=some ss) (hm:methOf P t name=some g) (hd:toDs ss=some ds) (h:PCall P S.gl g (y::ds) r) :
      How lo P id o E S ⟨true, .d r,fun x=>x,fun x=>x,fun x=>x⟩
  | dyn {x:Operand} {xs:List Operand} {s:SV} {fs cs ss:List SV} {ds:List D} {g:FuncId} {r:D} (hc:callOf o.op=some (.dyn x xs)) (hx:evalO E x=some s) (hf:fnS s=some (g,fs,cs)) (ha:argsS E xs=some ss) (hd:toDs (fs++ss++cs)=some ds) (h:PCall P S.gl g ds r) :
      How lo P id o E S ⟨true, .d r,fun x=>x,fun x=>x,fun x=>x⟩
  | loud {g:FuncId} {xs:List Operand} {ss:List SV} {r:SV} {S':St} (hl:lo.loud=true) (hc:callOf o.op=some (.fn g xs)) (ha:argsS E xs=some ss) (h:LCall P g ss S r S'):How lo P id o E S ⟨true,r,fun _=>S'.B,fun _=>S'.T,fun _=>S'.nx⟩
  | calm {g:FuncId} {xs:List Operand} {ss:List SV} {r:SV} {S':St} {fB:(Nat→Option (List SV))→(Nat→Option (List SV))} (hl:lo.calm S S') (hc:callOf o.op=some (.fn g xs)) (ha:argsS E xs=some ss) (h:LCall P g ss S r S') (h1:fB S.B=S'.B) (h2:∀ B b,S'.B b=S.B b→fB B b=B b)
      (h3:∀ B C b,B b=C b→fB B b=fB C b):How lo P id o E S ⟨true,r,fB,fun _=>S'.T,fun _=>S'.nx⟩
  | own {g:FuncId} {xs:List Operand} {ss:List SV} {r:SV} {fB:(Nat→Option (List SV))→(Nat→Option (List SV))} {m:Nat} (hl:lo.free) (hc:callOf o.op=some (.fn g xs)) (ha:argsS E xs=some ss) (h:OwnK P g ss S lo.base lo.top r fB m):How lo P id o E S ⟨true,r,fB,fun T=>T,fun _=>m⟩
theorem How.opS {lo:Lo}{id:Nat}{o:Oper}{ot:Out} (h:How lo P id o E S ot):OpS P id E S o ot.s (S.out ot):=by
  cases h with
  | op hc h=>rw[app_out];exact OpS.eval h
  | call hc ha hd h =>
    obtain⟨ts,ho⟩:=callOf_fn hc
    exact OpS.call ho ha hd h
  | inv hc hx ha hm hd h =>
    obtain⟨ts,ho⟩:=callOf_inv hc
    exact OpS.invoke ho hx hm ha hd h
  | dyn hc hx hf ha hd h =>
    obtain⟨ts,ho⟩:=callOf_dyn hc
    exact OpS.dyn ho hx hf ha hd h
  | loud hl hc ha h =>
    rename_i g xs ss r S1
    obtain⟨ts,ho⟩:=callOf_fn hc
    have e:S.out ⟨true,r,fun _=>S1.B,fun _=>S1.T,fun _=>S1.nx⟩=S1:=by
      have k:=h.2.1
      unfold St.out
      rw[← k.n, ← k.md, ← k.gl]
    rw[e]
    exact OpS.lcall ho ha h
  | calm hl hc ha h h1 h2 h3 =>
    rename_i g xs ss r S1 fB
    obtain⟨ts,ho⟩:=callOf_fn hc
    have e:S.out ⟨true,r,fB,fun _=>S1.T,fun _=>S1.nx⟩=S1:=by
      have k:=h.2.1
      unfold St.out
      simp only[h1]
      rw[← k.n, ← k.md, ← k.gl]
    rw[e]
    exact OpS.lcall ho ha h
  | own hl hc ha h =>
    obtain⟨ts,ho⟩:=callOf_fn hc
    exact OpS.lcall ho ha (h.call S rfl rfl rfl rfl rfl fun _ _=>rfl)
def Step1 (lo:Lo) (P:Program) (ops:Array Oper) (id:Nat) (o:Oper) (E:Env) (S:St) (ot:Out):Prop :=
  dstOk o.dst S.n=true∧wantS ops E o=some ot.w∧(ot.w=true→How lo P id o E S ot)∧(ot.w=false→ot=⟨false, .d (.v undef),fun x=>x,fun x=>x,fun x=>x⟩)
def Tr (lo:Nat→Bool) (P:Program) (ops:Array Oper) (base:Nat):Nat→List Oper→Env→St→List Out→Env→St→Prop
  | _,[],E,S,[],E',S'=>E'=E∧S'=S
  | i,o::l,E,S,ot::r,E',S'=>Step1 (loAt lo ops base i E) P ops (base+i) o E S ot∧Tr lo P ops base (i+1) l (E.put o.dst ot.s) (S.out ot) r E' S'
  | _,_,_,_,_,_,_=>False
theorem calm_fB (S S':St):∃ fB:(Nat→Option (List SV))→(Nat→Option (List SV)),fB S.B=S'.B∧(∀ B b,S'.B b=S.B b→fB B b=B b)∧∀ B C b,B b=C b→fB B b=fB C b:=by
  refine⟨fun B x=>@ite _ (S'.B x=S.B x) (Classical.propDecidable _) (B x) (S'.B x),?_,?_,?_⟩
  · funext x
    show (@ite _ (S'.B x=S.B x) (Classical.propDecidable _) (S.B x) (S'.B x))=S'.B x
    by_cases h:S'.B x=S.B x
    · rw[if_pos h,h]
    · rw[if_neg h]
  · intro B b h
    exact if_pos h
  · intro B C b h
    show (@ite _ (S'.B b=S.B b) (Classical.propDecidable _) (B b) (S'.B b)) = @ite _ (S'.B b=S.B b) (Classical.propDecidable _) (C b) (S'.B b)
    rw[h]
theorem VL.trace {lo:Nat→Bool}{ops:Array Oper}{base:Nat}:∀ {l:List Oper}{i:Nat}{E:Env}{S:St}{Q:Env→St→Prop},VL lo P ops base i l E S Q→lo ops.size=false→∃ r E' S',Tr lo P ops base i l E S r E' S'∧Q E' S'
  | [],i,E,S,Q,h,_=>⟨[],E,S,⟨rfl,rfl⟩,h⟩
  | o::l,i,E,S,Q,h,hlo=>by
    unfold VL at h
    obtain⟨hd,h⟩:=h
    cases hw:wantS ops E o with
    | none=>rw[hw] at h;exact h.elim
    | some c =>
      rw[hw] at h
      obtain⟨ht,hf⟩:=h
      cases c with
      | false =>
        obtain⟨r,E',S',h1,h2⟩:=VL.trace (hf rfl) hlo
        exact⟨⟨false, .d (.v undef),fun x=>x,fun x=>x,fun x=>x⟩::r,E',S',⟨⟨hd,hw,nofun,fun _=>rfl⟩,h1⟩,h2⟩
      | true =>
        have ht:=ht rfl
        split at ht
        · rename_i g xs hc
          cases ha:argsS E xs with
          | none=>rw[ha] at ht;exact ht.elim
          | some ss =>
            rw[ha] at ht
            rcases ht with ⟨ds,r0,hds,hp,hk⟩ | ⟨hl,r0,S1,hp,hk⟩ | ⟨hl,r0,fB,m,hp,hk⟩ | ⟨r0,S1,hl,hp,hk⟩
            case inr.inr.inr =>
              obtain⟨r,E',S',h1,h2⟩:=VL.trace hk hlo
              obtain⟨fB,q1,q2,q3⟩:=calm_fB S S1
              have e:S.out ⟨true,r0,fB,fun _=>S1.T,fun _=>S1.nx⟩=S1:=by
                have k:=hp.2.1
                unfold St.out
                simp only[q1]
                rw[← k.n, ← k.md, ← k.gl]
              exact⟨⟨true,r0,fB,fun _=>S1.T,fun _=>S1.nx⟩::r,E',S',⟨⟨hd,hw,fun _=>.calm hl hc ha hp q1 q2 q3,nofun⟩,by rw[e];exact h1⟩,h2⟩
            case inr.inr.inl =>
              obtain⟨r,E',S',h1,h2⟩:=VL.trace hk hlo
              exact⟨⟨true,r0,fB,fun T=>T,fun _=>m⟩::r,E',S',⟨⟨hd,hw,fun _=>.own hl hc ha hp,nofun⟩,h1⟩,h2⟩
            · obtain⟨r,E',S',h1,h2⟩:=VL.trace hk hlo
              exact⟨⟨true, .d r0,fun x=>x,fun x=>x,fun x=>x⟩::r,E',S',⟨⟨hd,hw,fun _=>.call hc ha hds hp,nofun⟩,h1⟩,h2⟩
            · obtain⟨r,E',S',h1,h2⟩:=VL.trace hk hlo
              have e:S.out ⟨true,r0,fun _=>S1.B,fun _=>S1.T,fun _=>S1.nx⟩=S1:=by
                have k:=hp.2.1
                unfold St.out
                rw[← k.n, ← k.md, ← k.gl]
              exact⟨⟨true,r0,fun _=>S1.B,fun _=>S1.T,fun _=>S1.nx⟩::r,E',S',⟨⟨hd,hw,fun _=>.loud hl hc ha hp,nofun⟩,by rw[e];exact h1⟩,h2⟩
        · rename_i x name xs hc
          unfold RecK at ht
          split at ht
          · rename_i t y hx
            cases ha:argsS E xs with
            | none=>rw[ha] at ht;exact ht.elim
            | some ss =>
              rw[ha] at ht
              obtain⟨g,ds,r0,hm,hds,hp,hk⟩:=ht
              obtain⟨r,E',S',h1,h2⟩:=VL.trace hk hlo
              exact⟨⟨true, .d r0,fun x=>x,fun x=>x,fun x=>x⟩::r,E',S',⟨⟨hd,hw,fun _=>.inv hc hx ha hm hds hp,nofun⟩,h1⟩,h2⟩
          · exact ht.elim
        · rename_i x xs hc
          unfold FnK at ht
          cases hx:evalO E x with
          | none=>rw[hx] at ht;exact ht.elim
          | some s =>
            rw[hx] at ht
            simp only[Option.bind_some] at ht
            cases hf:fnS s with
            | none =>
              rw[hf] at ht
              have ht:YvK (some s) _:=ht
              unfold YvK at ht
              split at ht
              · have hl:=ht.1
                rw[hlo] at hl
                cases hl
              · exact ht.elim
            | some gfc =>
              obtain⟨g,fs,cs⟩:=gfc
              rw[hf] at ht
              simp only at ht
              cases ha:argsS E xs with
              | none=>rw[ha] at ht;exact ht.elim
              | some ss =>
                rw[ha] at ht
                rcases ht with ⟨ds,r0,hds,hp,hk⟩ | ⟨hl,_⟩ | ⟨hl,_⟩ | ⟨_,_,hl,_⟩
                case inr.inr.inl=>exact hl.elim
                case inr.inr.inr=>exact hl.elim
                · obtain⟨r,E',S',h1,h2⟩:=VL.trace hk hlo
                  exact⟨⟨true, .d r0,fun x=>x,fun x=>x,fun x=>x⟩::r,E',S',⟨⟨hd,hw,fun _=>.dyn hc hx hf ha hds hp,nofun⟩,h1⟩,h2⟩
                · have hl:lo ops.size=true:=hl
                  rw[hlo] at hl;cases hl
        · rename_i hc
          have ht:=ht.resolve_right (fun q=>by rw[hlo] at q;cases q.1)
          cases he:evalOp P E S (base+i) o with
          | none=>rw[he] at ht;exact ht.elim
          | some se =>
            obtain⟨s,e⟩:=se
            rw[he] at ht
            obtain⟨r,E',S',h1,h2⟩:=VL.trace ht hlo
            exact⟨⟨true,s,effB (base+i) e,effT e,fun x=>x⟩::r,E',S',⟨⟨hd,hw,fun _=>.op hc he,nofun⟩,by rw[app_out];exact h1⟩,h2⟩
theorem Tr.sound {lo:Nat→Bool}{ops:Array Oper}{base:Nat}{Q:Env→St→Prop}:∀ {l:List Oper}{r:List Out}{i:Nat}{E:Env}{S:St}{E':Env}{S':St},Tr lo P ops base i l E S r E' S'→Q E' S'→LS P ops base i l E S Q
  | [],[],i,E,S,E',S',h,hq=>by obtain⟨rfl,rfl⟩:=h;exact LS.nil hq
  | o::l,ot::r,i,E,S,E',S',h,hq=>by
    obtain⟨⟨hd,hw,ht,hf⟩,h2⟩:=h
    have hd:=dstOk_ok hd
    cases hb:ot.w with
    | false =>
      have e:=hf hb
      subst e
      exact LS.skip hw hd (Tr.sound h2 hq)
    | true =>
      rw[hb] at hw
      exact LS.cons hw hd (ht hb).opS (Tr.sound h2 hq)
  | [],_::_,_,_,_,_,_,h,_=>h.elim
  | _::_,[],_,_,_,_,_,h,_=>h.elim
theorem VL.sound {lo:Nat→Bool}{ops:Array Oper}{base:Nat}:∀ {l:List Oper}{i:Nat}{E:Env}{S:St}{Q:Env→St→Prop},VL lo P ops base i l E S Q→LS P ops base i l E S Q
  | [],i,E,S,Q,h=>LS.nil h
  | o::l,i,E,S,Q,h=>by
    unfold VL at h
    obtain⟨hd,h⟩:=h
    have hd:=dstOk_ok hd
    cases hw:wantS ops E o with
    | none=>rw[hw] at h;exact h.elim
    | some c =>
      rw[hw] at h
      obtain⟨ht,hf⟩:=h
      cases c with
      | false=>exact LS.skip hw hd (VL.sound (hf rfl))
      | true =>
        have ht:=ht rfl
        split at ht
        · rename_i g xs hc
          obtain⟨ts,ho⟩:=callOf_fn hc
          cases ha:argsS E xs with
          | none=>rw[ha] at ht;exact ht.elim
          | some ss =>
            rw[ha] at ht
            rcases ht with ⟨ds,r0,hds,hp,hk⟩ | ⟨hl,r0,S1,hp,hk⟩ | ⟨hl,r0,fB,m,hp,hk⟩ | ⟨r0,S1,hl,hp,hk⟩
            case inr.inr.inr=>exact LS.cons hw hd (OpS.lcall ho ha hp) (VL.sound hk)
            case inr.inr.inl=>exact LS.cons hw hd (OpS.lcall ho ha (hp.call S rfl rfl rfl rfl rfl fun _ _=>rfl)) (VL.sound hk)
            · exact LS.cons hw hd (OpS.call ho ha hds hp) (VL.sound hk)
            · exact LS.cons hw hd (OpS.lcall ho ha hp) (VL.sound hk)
        · rename_i x name xs hc
          obtain⟨ts,ho⟩:=callOf_inv hc
          unfold RecK at ht
          split at ht
          · rename_i t y hx
            cases ha:argsS E xs with
            | none=>rw[ha] at ht;exact ht.elim
            | some ss =>
              rw[ha] at ht
              obtain⟨g,ds,r0,hm,hds,hp,hk⟩:=ht
              exact LS.cons hw hd (OpS.invoke ho hx hm ha hds hp) (VL.sound hk)
          · exact ht.elim
        · rename_i x xs hc
          obtain⟨ts,ho⟩:=callOf_dyn hc
          unfold FnK at ht
          cases hx:evalO E x with
          | none=>rw[hx] at ht;exact ht.elim
          | some s =>
            rw[hx] at ht
            simp only[Option.bind_some] at ht
            cases hf:fnS s with
            | none =>
              rw[hf] at ht
              have ht:YvK (some s) _:=ht
              unfold YvK at ht
              split at ht
              · rename_i y hy
                cases hy
                cases ha:argsS E xs with
                | none=>have:=ht.2;rw[ha] at this;exact this.elim
                | some ss =>
                  have ht:=ht.2
                  rw[ha] at ht
                  obtain⟨r,S1,hp,hk⟩:=ht
                  exact LS.cons hw hd (OpS.yield ho hx ha hp) (VL.sound hk)
              · exact ht.elim
            | some gfc =>
              obtain⟨g,fs,cs⟩:=gfc
              rw[hf] at ht
              simp only at ht
              cases ha:argsS E xs with
              | none=>rw[ha] at ht;exact ht.elim
              | some ss =>
                rw[ha] at ht
                rcases ht with ⟨ds,r0,hds,hp,hk⟩ | ⟨hl,r0,S1,hp,hk⟩ | ⟨hl,_⟩ | ⟨_,_,hl,_⟩
                case inr.inr.inl=>exact hl.elim
                case inr.inr.inr=>exact hl.elim
                · exact LS.cons hw hd (OpS.dyn ho hx hf ha hds hp) (VL.sound hk)
                · exact LS.cons hw hd (OpS.dynL ho hx hf ha hp) (VL.sound hk)
        · rename_i hc
          rcases ht with ht | ⟨_,ht⟩
          · cases he:evalOp P E S (base+i) o with
            | none=>rw[he] at ht;exact ht.elim
            | some se =>
              obtain⟨s,e⟩:=se
              rw[he] at ht
              exact LS.cons hw hd (OpS.eval he) (VL.sound ht)
          · exact LS.consX hw hd (OpX.eval ht) (fun s e h=>VL.sound h)
end
end Go.Sh
namespace Go.Sh
open Go.RowKit (Below)
section
variable {P:Program}{E E':Env}{S S':St}
theorem bndS_congr {d:Nat}{x:Option Operand} (h:∀ y,x=some y→evalO E' y=evalO E y):bndS E' d x=bndS E d x:=by
  cases x with
  | none=>rfl
  | some y=>simp only[bndS,h y rfl]
theorem partsS_congr:∀ {ps:List (Nat×Operand)},(∀ p∈ps,evalO E' p.2=evalO E p.2)→partsS E' ps=partsS E ps
  | [],_=>rfl
  | (i,x)::r,h=>by
    simp only[partsS,h (i,x) (List.mem_cons_self ..),partsS_congr fun p hp=>h p (List.mem_cons_of_mem _ hp)]
theorem partsD_congr:∀ {ps:List (Nat×Operand)},(∀ p∈ps,evalO E' p.2=evalO E p.2)→partsD E' ps=partsD E ps
  | [],_=>rfl
  | (i,x)::r,h=>by
    simp only[partsD,h (i,x) (List.mem_cons_self ..),partsD_congr fun p hp=>h p (List.mem_cons_of_mem _ hp)]
theorem argsS_congr:∀ {xs:List Operand},(∀ x∈xs,evalO E' x=evalO E x)→argsS E' xs=argsS E xs
  | [],_=>rfl
  | x::r,h=>by
    simp only[argsS,h x (List.mem_cons_self ..),argsS_congr fun p hp=>h p (List.mem_cons_of_mem _ hp)]
theorem refOf_op {r:Option SV}{b:Nat} (h:refOf r=some b):∃ off,r=some (.op b off):=by
  unfold refOf at h
  split at h
  · cases h;exact⟨_,rfl⟩
  · cases h
set_option maxHeartbeats 1600000 in
theorem evalOp_congr {id:Nat}{o:Oper} (hE:∀ x∈o.op.operands,evalO E' x=evalO E x) (hB:(memOf o.op).rB=true→S'.B=S.B∨(∃ b,addrB E o.op=some b∧S'.B b=S.B b)∨(isLoad o.op=true∧addrB E o.op=none)) (hT:(memOf o.op).rT=true→S'.T=S.T) (hmd:S'.md=S.md) (hgl:S'.gl=S.gl):evalOp P E' S' id o=evalOp P E S id o:=by
  obtain⟨dst,op,type,pos,after,guard⟩:=o
  cases op<;>simp only[Op.operands] at hE<;>simp only[evalOp]
  case build t ps=>rw[partsS_congr (E:=E) (E':=E') fun p hp=>hE p.2 (by simp;exact⟨p.1,by simpa using hp⟩)]
  case buildSlice t n ps=>rw[partsD_congr (E:=E) (E':=E') fun p hp=>hE p.2 (by simp;exact⟨p.1,by simpa using hp⟩),partsS_congr (E:=E) (E':=E') fun p hp=>hE p.2 (by simp;exact⟨p.1,by simpa using hp⟩),hmd]
  case makeFunc fn first caps =>
    have h1:argsS E' first.toList=argsS E first.toList:=argsS_congr fun x hx=>hE x (Array.mem_append_left _ (by simpa using hx))
    have h2:argsS E' caps.toList=argsS E caps.toList:=argsS_congr fun x hx=>hE x (Array.mem_append_right _ (by simpa using hx))
    rw[h1,h2]
  case load t x =>
    rw[hE x (by simp)]
    rcases hB rfl with h | ⟨b,h1,h2⟩ | ⟨_,h1⟩
    · rw[h]
    · obtain⟨off,h3⟩:=refOf_op (show refOf (evalO E x)=some b from h1)
      rw[h3];simp only[h2]
    · have h1:refOf (evalO E x)=none:=h1
      generalize evalO E x=z at h1
      split
      · rfl
      · cases h1
      · rfl
  case store t x y =>
    rw[hE x (by simp),hE y (by simp)]
    rcases hB rfl with h | ⟨b,h1,h2⟩ | ⟨h1,_⟩
    rotate_right
    · cases h1
    · rw[h]
    · obtain⟨off,h3⟩:=refOf_op (show refOf (evalO E x)=some b from h1)
      rw[h3];cases evalO E y<;>cases szOf P t<;>first | rfl | simp only[h2]
  case slice t x lo hi mx =>
    cases mx with
    | some m=>rfl
    | none =>
      simp only
      have h1:=hE x (by simp)
      have h2:∀ d,bndS E' d lo=bndS E d lo:=fun d=>bndS_congr fun y hy=>hE y (by simp[hy])
      have h3:∀ d,bndS E' d hi=bndS E d hi:=fun d=>bndS_congr fun y hy=>hE y (by simp[hy])
      rw[h1]
      have:∀ s,evalSlice P E' S' t s lo hi=evalSlice P E S t s lo hi:=fun s=>by
        unfold evalSlice
        simp only[h2,h3]
      simp only[this]
  case call c =>
    obtain⟨callee,args,tys⟩:=c
    simp only
    have ha:∀ x∈args.toList,evalO E' x=evalO E x:=fun x hx=>hE x (by simp only[Call.operands];exact Array.mem_append_right _ (by simpa using hx))
    split
    · rename_i x T h1 h2
      rw[ha x (by rw[h1];simp)]
    · rename_i x y T T' h1 h2
      rw[ha x (by rw[h1];simp),ha y (by rw[h1];simp)]
      have:∀ d s t,evalAppend P S' id d T s t=evalAppend P S id d T s t:=fun d s t=>by
        unfold evalAppend
        have hB':S'.B=S.B:=by
          rcases hB rfl with h | ⟨b,h1,_⟩ | ⟨h1,_⟩
          · exact h
          · cases h1
          · cases h1
        simp only[hmd,hT rfl,hB']
      simp only[this]
    · rename_i b x y T T' hno h1 h2
      rw[ha x (by rw[h1];simp),ha y (by rw[h1];simp)]
    · rfl
  case makeSlice t x y =>
    rw[hE x (by simp),hE y (by simp)]
    have:∀ d s t',evalMake P S' id d t s t'=evalMake P S id d t s t':=fun d s t'=>by
      unfold evalMake
      simp only[hmd]
    simp only[this]
  case binOp op T x y T2 =>
    have h1:=hE x (by simp)
    have h2:=hE y (by simp)
    cases y<;>simp only[h1,h2,hgl]
  all_goals (first | rfl | (simp only[hE _ (by simp)];done)|(simp_all;done))
structure EffOk (m:Mem) (id:Nat) (e:Eff):Prop where
  new:∀ cs,e=.new cs→m.wB=true
  set:∀ b cs,e=.set b cs→m.wB=true∧m.own=false
  tip:∀ i k sz,e=.tip i k sz→m.wT=true∧(m.own=true→i=id)
  mov:∀ b cs,e=.mov b cs→m.wB=true∧m.own=false
theorem EffOk.no (m:Mem) (id:Nat):EffOk m id .no:=⟨nofun,nofun,nofun,nofun⟩
theorem eqlE_no {gl:Nat→Option D}{op:BinOp}{T:TypeId}{s t s':SV}{e:Eff} (h:eqlE P gl op T s t=some (s',e)):e=.no:=by
  unfold eqlE at h
  split at h
  · obtain⟨_,h5⟩:=@onlyIf_ok _ _ (Classical.propDecidable _) _ _ h
    simp only[Prod.mk.injEq] at h5;exact h5.2
  · cases h
theorem rowE_no {md:List Nat}{dst:Option Nat}{n:Nat}{r:Option (List D)}{s:SV}{e:Eff} (h:r.bind (rowE md dst n)=some (s,e)):e=.no:=by
  simp only[Option.bind_eq_some_iff] at h
  obtain⟨cs,_,h⟩:=h
  unfold rowE at h
  split at h
  · cases h
  · simp only[Option.some.injEq,Prod.mk.injEq] at h;exact h.2.symm
theorem rowEL_no {md:List Nat}{dst:Option Nat}{n:Nat}{r:Option (List SV×Nat)}{s:SV}{e:Eff} (h:r.bind (rowEL md dst n)=some (s,e)):e=.no:=by
  simp only[Option.bind_eq_some_iff] at h
  obtain⟨cs,_,h⟩:=h
  unfold rowEL at h
  split at h
  · cases h
  · simp only[Option.some.injEq,Prod.mk.injEq] at h;exact h.2.symm
theorem lookE_no {T:TypeId}{ok:Bool}{x y:Option SV}{s:SV}{e:Eff} (h:lookE P T ok x y=some (s,e)):e=.no:=by
  unfold lookE at h
  split at h
  · simp only[Option.map_eq_some_iff,Prod.mk.injEq] at h
    obtain⟨_,_,_,rfl⟩:=h;rfl
  · cases h
theorem map_no {r:Option SV}{s:SV}{e:Eff} (h:r.map (fun s=>(s,Eff.no))=some (s,e)):e=.no:=by
  simp only[Option.map_eq_some_iff,Prod.mk.injEq] at h
  obtain⟨_,_,_,rfl⟩:=h;rfl
set_option maxHeartbeats 1600000 in
theorem evalOp_eff {id:Nat}{o:Oper}{s:SV}{e:Eff} (h:evalOp P E S id o=some (s,e)):EffOk (memOf o.op) id e:=by
  obtain⟨dst,op,type,pos,after,guard⟩:=o
  cases op<;>simp only[evalOp] at h
  case alloc T =>
    simp only[Option.map_eq_some_iff,Prod.mk.injEq] at h;obtain⟨cs,h1,rfl,rfl⟩:=h
    exact⟨fun _ _=>rfl,nofun,nofun,nofun⟩
  case box T x =>
    split at h
    · split at h
      · simp only[Option.some.injEq,Prod.mk.injEq] at h;obtain⟨rfl,rfl⟩:=h
        exact⟨fun _ _=>rfl,nofun,nofun,nofun⟩
      · cases h
    · cases h
  case store T x y =>
    split at h
    · split at h
      · obtain⟨_,h5⟩:=onlyIf_ok h
        simp only[Prod.mk.injEq] at h5;obtain⟨rfl,rfl⟩:=h5
        exact⟨nofun,fun _ _ _=>⟨rfl,rfl⟩,nofun,nofun⟩
      · cases h
    · cases h
  case makeSlice T x y =>
    split at h
    · unfold evalMake at h
      split at h
      · split at h
        · obtain⟨_,h5⟩:=onlyIf_ok h
          simp only[Prod.mk.injEq] at h5;obtain⟨rfl,rfl⟩:=h5
          exact⟨nofun,nofun,fun i k sz e=>by (cases e;exact⟨rfl,fun _=>rfl⟩),nofun⟩
        split at h
        · obtain⟨_,h5⟩:=onlyIf_ok h
          simp only[Prod.mk.injEq] at h5;obtain⟨rfl,rfl⟩:=h5
          exact⟨fun _ _=>rfl,nofun,nofun,nofun⟩
        · obtain⟨_,h5⟩:=onlyIf_ok h
          simp only[Prod.mk.injEq] at h5;obtain⟨rfl,rfl⟩:=h5
          exact⟨fun _ _=>rfl,nofun,nofun,nofun⟩
      · cases h
    · cases h
  case convert T U x =>
    split at h
    · unfold evalConv at h
      split at h
      · split at h
        · simp only[Option.some.injEq,Prod.mk.injEq] at h;obtain⟨rfl,rfl⟩:=h;exact EffOk.no _ _
        · cases h
      · split at h
        · simp only[Option.some.injEq,Prod.mk.injEq] at h;obtain⟨rfl,rfl⟩:=h
          exact EffOk.no _ _
        · cases h
      · split at h
        · split at h
          · obtain⟨_,h5⟩:=onlyIf_ok h
            simp only[Prod.mk.injEq] at h5;obtain⟨rfl,rfl⟩:=h5;exact EffOk.no _ _
          · cases h
        · cases h
    · cases h
  case call c =>
    obtain⟨callee,args,tys⟩:=c
    simp only at h
    split at h
    · split at h
      · rw[map_no h];exact EffOk.no _ _
      · cases h
    · split at h
      · split at h
        · unfold evalAppend at h
          split at h
          · split at h
            · split at h
              · simp only[Option.some.injEq,Prod.mk.injEq] at h;obtain⟨rfl,rfl⟩:=h;exact EffOk.no _ _
              · split at h
                · obtain⟨_,h5⟩:=onlyIf_ok h
                  simp only[Prod.mk.injEq] at h5;obtain⟨rfl,rfl⟩:=h5
                  exact⟨fun _ _=>rfl,nofun,nofun,nofun⟩
                split at h
                · obtain⟨_,h5⟩:=onlyIf_ok h
                  simp only[Prod.mk.injEq] at h5;obtain⟨rfl,rfl⟩:=h5
                  exact⟨fun _ _=>rfl,nofun,nofun,nofun⟩
                · obtain⟨_,h5⟩:=onlyIf_ok h
                  simp only[Prod.mk.injEq] at h5;obtain⟨rfl,rfl⟩:=h5
                  exact⟨nofun,nofun,fun i k sz e=>⟨rfl,nofun⟩,nofun⟩
            · obtain⟨_,h5⟩:=onlyIf_ok h
              simp only[Prod.mk.injEq] at h5;obtain⟨rfl,rfl⟩:=h5
              exact⟨nofun,nofun,fun i k sz e=>⟨rfl,nofun⟩,nofun⟩
            · split at h
              · split at h
                · simp only[Option.some.injEq,Prod.mk.injEq] at h;obtain⟨rfl,rfl⟩:=h;exact EffOk.no _ _
                obtain⟨_,h5⟩:=onlyIf_ok h
                simp only[Prod.mk.injEq] at h5;obtain⟨rfl,rfl⟩:=h5
                exact⟨nofun,nofun,nofun,fun b cs e=>⟨rfl,rfl⟩⟩
              · cases h
            · cases h
          · unfold appV at h
            split at h
            · split at h
              · obtain⟨_,h5⟩:=onlyIf_ok h
                simp only[Prod.mk.injEq] at h5;obtain⟨rfl,rfl⟩:=h5
                exact⟨fun _ _=>rfl,nofun,nofun,nofun⟩
              · split at h
                · obtain⟨_,h5⟩:=onlyIf_ok h
                  simp only[Prod.mk.injEq] at h5;obtain⟨rfl,rfl⟩:=h5
                  exact⟨nofun,nofun,nofun,fun b cs e=>⟨rfl,rfl⟩⟩
                · cases h
              · cases h
            · cases h
          · cases h
        · cases h
      · cases h
    · split at h
      · rw[map_no h];exact EffOk.no _ _
      · cases h
    · cases h
  case slice T x lo hi mx =>
    cases mx with
    | some m=>cases h
    | none =>
      simp only at h
      split at h
      · rw[map_no h];exact EffOk.no _ _
      · cases h
  all_goals
    have hno:e=.no:=by
      repeat' split at h
      all_goals first
        | exact map_no h
        | exact eqlE_no h
        | exact rowE_no h
        | exact rowEL_no h
        | exact lookE_no h
        | (simp only[Option.some.injEq,Prod.mk.injEq] at h;exact h.2.symm)
        | (simp only[Option.map_eq_some_iff,Prod.mk.injEq] at h;obtain⟨_,_,_,h5⟩:=h;exact h5.symm)
        | (obtain⟨_,h5⟩:=onlyIf_ok h;simp only[Prod.mk.injEq] at h5;exact h5.2)
        | cases h
    rw[hno];exact EffOk.no _ _
theorem load_has {id:Nat}{o:Oper}{s:SV}{e:Eff}{b:Nat} (h:evalOp P E S id o=some (s,e)) (hl:isLoad o.op=true) (hb:addrB E o.op=some b):S.B b≠none:=by
  obtain⟨dst,op,type,pos,after,guard⟩:=o
  cases op<;>try (cases hl;done)
  case load t x =>
    obtain⟨off,h3⟩:=refOf_op (show refOf (evalO E x)=some b from hb)
    simp only[evalOp,h3] at h
    intro hn
    rw[hn] at h
    simp at h
theorem set_has {id:Nat}{o:Oper}{s:SV}{b:Nat}{cs:List SV} (h:evalOp P E S id o=some (s, .set b cs)):S.B b≠none:=by
  have hk:=(evalOp_eff h).set b cs rfl
  obtain⟨dst,op,type,pos,after,guard⟩:=o
  cases op<;>try (cases hk.1;done)
  case alloc T=>cases hk.2
  case box T x=>cases hk.2
  case store T x y =>
    simp only[evalOp] at h
    split at h
    · split at h
      · rename_i cs' hB
        obtain⟨_,h5⟩:=onlyIf_ok h
        simp only[Prod.mk.injEq,Eff.set.injEq] at h5;obtain⟨_,rfl,_⟩:=h5
        rw[hB];simp
      · cases h
    · cases h
  case makeSlice T x y=>cases hk.2
  case call c =>
    obtain⟨callee,args,tys⟩:=c
    simp only[evalOp] at h
    split at h
    · split at h
      · have:=map_no h;cases this
      · cases h
    · split at h
      · split at h
        · unfold evalAppend at h
          split at h
          · split at h
            · split at h
              · simp only[Option.some.injEq,Prod.mk.injEq] at h;cases h.2
              · split at h
                · obtain⟨_,h5⟩:=onlyIf_ok h
                  simp only[Prod.mk.injEq] at h5;cases h5.2
                split at h
                · obtain⟨_,h5⟩:=onlyIf_ok h
                  simp only[Prod.mk.injEq] at h5;cases h5.2
                · obtain⟨_,h5⟩:=onlyIf_ok h
                  simp only[Prod.mk.injEq] at h5;cases h5.2
            · obtain⟨_,h5⟩:=onlyIf_ok h
              simp only[Prod.mk.injEq] at h5;cases h5.2
            · split at h
              · split at h
                · simp only[Option.some.injEq,Prod.mk.injEq] at h;cases h.2
                obtain⟨_,h5⟩:=onlyIf_ok h
                simp only[Prod.mk.injEq] at h5;cases h5.2
              · cases h
            · cases h
          · unfold appV at h
            split at h
            · split at h
              · obtain⟨_,h5⟩:=onlyIf_ok h
                simp only[Prod.mk.injEq] at h5;cases h5.2
              · split at h
                · obtain⟨_,h5⟩:=onlyIf_ok h
                  simp only[Prod.mk.injEq] at h5;cases h5.2
                · cases h
              · cases h
            · cases h
          · cases h
        · cases h
      · cases h
    · split at h
      · have:=map_no h;cases this
      · cases h
    · cases h
theorem wantS_congr {ops:Array Oper}{o:Oper} (h:∀ g w d,o.guard=some (g,w)→(ops[g]?).bind (·.dst)=some d→evalO E' (.tmp d)=evalO E (.tmp d)):wantS ops E' o=wantS ops E o:=by
  unfold wantS
  split
  · rfl
  · rename_i j want hg
    split
    · rename_i d hd
      rw[h j want d hg hd]
    · rfl
end
end Go.Sh
namespace Go.Sh
open Go.RowKit (Below)
section
variable {P:Program}{sp:Spl}{ol:Old}
theorem looksAt_operand {ops:Array Oper}{o:Oper}{t:Nat} (h:Operand.tmp t∈o.op.operands):t∈looksAt ops o :=
  List.mem_append_left _ (List.mem_filterMap.2 ⟨.tmp t,by simpa using h,rfl⟩)
theorem looksAt_guard {ops:Array Oper}{o:Oper}{g:Nat}{w:Bool}{d:Nat} (h:o.guard=some (g,w)) (hd:(ops[g]?).bind (·.dst)=some d):d∈looksAt ops o:=by
  unfold looksAt
  rw[h]
  exact List.mem_append_right _ (by simp[hd])
def SpAt (ops:Array Oper) (x:Nat×Nat):Prop:=∃ (h:x.1<ops.size) (t:Nat),addrX (ops[x.1]).op=some (.tmp t)∧t<globalsAt∧rootOf ops x.1 t=some x.2
theorem spAt_ok {ops:Array Oper}{x:Nat×Nat} (h:spAt ops x=true):SpAt ops x:=by
  unfold spAt at h
  split at h
  · rename_i o ho
    obtain⟨hlt,rfl⟩:=Array.getElem?_eq_some_iff.1 ho
    split at h
    · rename_i t ht
      simp only[Bool.and_eq_true,decide_eq_true_eq,beq_iff_eq] at h
      exact⟨hlt,t,ht,h.1,h.2⟩
    · cases h
  · cases h
def SpHas (sp:Spl) (i j:Nat):Prop:=∃ p∈sp,p.1.1=i∧p.2.1=j
def OlHas (ol:Old) (i j:Nat):Prop:=∃ p∈ol,(p.1.1=i∧p.2=j)∨(p.1.1=j∧p.2=i)
def NewAt (ops:Array Oper) (j:Nat):Prop:=∃ h:j<ops.size,isNew (ops[j]).op=true
def EarHas (ops:Array Oper) (i j:Nat):Prop:=j<i∧NewAt ops i∧(∃ h:j<ops.size,isLoad (ops[j]).op=true)∧∀ q (h:q<ops.size),q<j→isCall (ops[q]).op=false
theorem earOk_ok {ops:Array Oper}{i j:Nat} (hlt:j<i) (h:earOk ops i j=true):EarHas ops i j:=by
  unfold earOk at h
  simp only[Bool.and_eq_true] at h
  obtain⟨⟨h1,h2⟩,h3⟩:=h
  refine⟨hlt,?_,?_,fun q hq hlt=>?_⟩
  · by_cases hi:i<ops.size
    · exact⟨hi,by simpa[hi] using h1⟩
    · simp[hi] at h1
  · by_cases hj:j<ops.size
    · exact⟨hj,by simpa[hj] using h2⟩
    · simp[hj] at h2
  · have:=List.all_eq_true.1 h3 q (List.mem_range.2 hlt)
    simpa[hq] using this
def LatHas (ops:Array Oper) (i j:Nat):Prop:=j<i∧(∃ h:i<ops.size,isLoad (ops[i]).op=true)∧isMaker ops j=true
theorem latOk_ok {ops:Array Oper}{i j:Nat} (hlt:j<i) (h:latOk ops i j=true):LatHas ops i j:=by
  unfold latOk at h
  simp only[Bool.and_eq_true] at h
  refine⟨hlt,?_,h.2⟩
  by_cases hi:i<ops.size
  · exact⟨hi,by simpa[hi] using h.1⟩
  · have:=h.1;simp[hi] at this
structure DrawOk (P:Program) (ops:Array Oper) (sp:Spl) (ol:Old):Prop where
  mixed:P.follows .mixedOrders=true
  back:∀ i (h:i<ops.size) e,e∈(ops[i]).after.toList→Region.binds .any e=true→e.on<i
  dst:∀ i j (h:i<ops.size) (h':j<ops.size),j<i→∀ d,(ops[i]).dst=some d→(ops[j]).dst≠some d
  pair:∀ i j (h:i<ops.size) (h':j<ops.size),j<i→cmp ops.toList i j=true ∨
    ((∀ d,(ops[j]).dst=some d→d∉looksAt ops ops[i])∧(∀ d,(ops[i]).dst=some d→d∉looksAt ops ops[j])∧(clash (memOf (ops[i]).op) (memOf (ops[j]).op)=false∨SpHas sp i j∨OlHas ol i j∨EarHas ops i j∨LatHas ops i j))
  spOk:∀ p∈sp,SpAt ops p.1∧SpAt ops p.2
  olOk:∀ p∈ol,SpAt ops p.1∧NewAt ops p.2
theorem drawOk_ok {ops:Array Oper} (h:drawOk P ops sp ol=true):DrawOk P ops sp ol:=by
  unfold drawOk at h
  simp only[Bool.and_eq_true] at h
  obtain⟨⟨⟨⟨⟨h1,h2⟩,h3⟩,h4⟩,h5⟩,h6⟩:=h
  have pr:∀ i j (h:i<ops.size) (h':j<ops.size),j<i→pairOk ops ops.toList sp ol i j=true:=fun i j hi hj hlt =>
    List.all_eq_true.1 (List.all_eq_true.1 h4 i (List.mem_range.2 hi)) j (List.mem_range.2 hlt)
  have ge:∀ i (h:i<ops.size),ops.toList[i]?=some ops[i]:=fun i hi=>by simp[hi]
  refine⟨h1,fun i hi e he hb=>?_,fun i j hi hj hlt d hd hd'=>?_,fun i j hi hj hlt=>?_,fun p hp=>?_,fun p hp=>?_⟩
  · have:=List.all_eq_true.1 h3 i (List.mem_range.2 hi)
    simp only[Array.getElem?_eq_getElem hi,Option.map_some,Option.getD_some] at this
    have:=List.all_eq_true.1 this e he
    simp only[hb,Bool.not_true,Bool.false_or] at this
    simpa using this
  · have:=pr i j hi hj hlt
    simp only[pairOk,ge i hi,ge j hj,Bool.and_eq_true] at this
    have:=this.1
    simp[hd,hd'] at this
  · have:=pr i j hi hj hlt
    simp only[pairOk,ge i hi,ge j hj,Bool.and_eq_true,Bool.or_eq_true] at this
    refine this.2.imp id (fun h=>?_)
    obtain⟨⟨a,b⟩,c⟩:=h
    refine⟨fun d hd hm=>?_,fun d hd hm=>?_,?_⟩
    · simp[hd,hm] at a
    · simp[hd,hm] at b
    · rcases c with (((c | c) | c) | c) | c
      · exact .inl (by simpa using c)
      · obtain⟨p,hp,hc⟩:=List.any_eq_true.1 c
        simp only[Bool.and_eq_true,beq_iff_eq] at hc
        exact .inr (.inl ⟨p,hp,hc⟩)
      · obtain⟨p,hp,hc⟩:=List.any_eq_true.1 c
        simp only[Bool.or_eq_true,Bool.and_eq_true,beq_iff_eq] at hc
        exact .inr (.inr (.inl ⟨p,hp,hc⟩))
      · exact .inr (.inr (.inr (.inl (earOk_ok hlt c))))
      · exact .inr (.inr (.inr (.inr (latOk_ok hlt c))))
  · have:=List.all_eq_true.1 h5 p hp
    simp only[Bool.and_eq_true] at this
    exact⟨spAt_ok this.1,spAt_ok this.2⟩
  · have:=List.all_eq_true.1 h6 p hp
    simp only[Bool.and_eq_true] at this
    refine⟨spAt_ok this.1,?_⟩
    have h7:=this.2
    by_cases hlt:p.2<ops.size
    · exact⟨hlt,by simpa[hlt] using h7⟩
    · simp[hlt] at h7
theorem anc_lt {ops:Array Oper} (hok:DrawOk P ops sp ol) {i j:Nat} (hi:i<ops.size) (h:anc ops.toList i j=true):j<i:=by
  induction i using Nat.strongRecOn with
  | _ i ih =>
    obtain⟨e,h1,h2,h3⟩:=anc_step (by simpa using hi) h
    have hlt:=hok.back i hi e (by simpa using h1) h2
    rcases h3 with h3 | ⟨_,h3⟩
    · omega
    · have:=ih e.on hlt (by omega) h3
      omega
section
variable {ops:Array Oper}{E0:Env}{S0:St}{base:Nat}{out:Nat→Out}
def stE (ops:Array Oper) (out:Nat→Out) (j:Nat) (E:Env):Env:=match ops[j]? with | some o=>E.put o.dst (out j).s | none=>E
def envL (ops:Array Oper) (out:Nat→Out) (E0:Env) (L:Nat→Bool) (n:Nat):Env:=foldF (stE ops out) L n E0
def stL (out:Nat→Out) (S0:St) (L:Nat→Bool) (n:Nat):St:={ S0 with B:=foldF (fun j=>(out j).fB) L n S0.B,T:=foldF (fun j=>(out j).fT) L n S0.T,nx:=foldF (fun j=>(out j).fx) L n S0.nx }
abbrev allL:Nat→Bool:=fun _=>true
theorem foldF_lt {X:Type}{f:Nat→X→X}{k:Nat}:∀ {n:Nat}{x:X},k≤n→foldF f (fun j=>decide (j<k)) n x=foldF f allL k x
  | 0, x, h => by have : k = 0 := by omega
                  subst this;rfl
  | n+1,x,h=>by
    by_cases e:k=n+1
    · subst e
      exact foldF_congr fun j hj=>.inr (by simp[hj])
    · simp only[foldF]
      rw[if_neg (by simp;omega)]
      exact foldF_lt (by omega)
theorem Tr.at {lo:Nat→Bool}:∀ {l:List Oper}{r:List Out}{i:Nat}{E:Env}{S:St}{E':Env}{S':St},Tr lo P ops base i l E S r E' S'→(∀ k,k<l.length→ops[i+k]?=l[k]?)→(∀ k,k<l.length→r[k]?=some (out (i+k))) →
    E=envL ops out E0 allL i→S=stL out S0 allL i→(∀ k (h:k<l.length),Step1 (loAt lo ops base (i+k) (envL ops out E0 allL (i+k))) P ops (base+(i+k)) l[k] (envL ops out E0 allL (i+k)) (stL out S0 allL (i+k)) (out (i+k)))∧E'=envL ops out E0 allL (i+l.length)∧S'=stL out S0 allL (i+l.length)
  | [],[],i,E,S,E',S',h,_,_,hE,hS=>by obtain⟨rfl,rfl⟩:=h;exact⟨fun k hk=>by simp at hk,hE,hS⟩
  | o::l,ot::r,i,E,S,E',S',h,ho,hr,hE,hS=>by
    obtain⟨h1,h2⟩:=h
    have e0:ops[i]?=some o:=by simpa using ho 0 (by simp)
    have e1:ot=out i:=by simpa using hr 0 (by simp)
    have eE:E.put o.dst ot.s=envL ops out E0 allL (i+1):=by
      unfold envL
      simp only[foldF,if_true,stE,e0]
      rw[hE,e1];rfl
    have eS:S.out ot=stL out S0 allL (i+1):=by
      rw[hS,e1];rfl
    obtain⟨a,b,c⟩:=Tr.at h2 (fun k hk=>by have:=ho (k+1) (by simpa using hk);simpa[Nat.add_assoc,Nat.add_comm 1] using this) (fun k hk=>by have:=hr (k+1) (by simpa using hk);simpa[Nat.add_assoc,Nat.add_comm 1] using this) eE eS
    refine⟨fun k hk=>?_,?_,?_⟩
    · cases k with
      | zero =>
        simp only[Nat.add_zero,List.getElem_cons_zero]
        rw[← hE, ← hS, ← e1];exact h1
      | succ k =>
        have:=a k (by simpa using hk)
        simpa[Nat.add_assoc,Nat.add_comm 1] using this
    · rw[b];congr 1;simp;omega
    · rw[c];congr 1;simp;omega
  | [],_::_,_,_,_,_,_,h,_,_,_,_=>h.elim
  | _::_,[],_,_,_,_,_,h,_,_,_,_=>h.elim
def wildAt (ops:Array Oper) (j:Nat):Bool:=loudAt ops.toList j || freeAt ops j
theorem drawLo_loud {j:Nat} (hj:j<ops.size):drawLo ops j=loudAt ops.toList j:=if_pos hj
theorem drawLo_free {j:Nat}:drawLo ops (ops.size+1+2*j)=freeAt ops j:=by
  unfold drawLo
  rw[if_neg (by omega),if_neg (by omega),if_pos (by omega)]
  congr 1;omega
theorem drawLo_calm {j:Nat}:drawLo ops (ops.size+1+(2*j+1))=calmAt ops j:=by
  unfold drawLo
  rw[if_neg (by omega),if_neg (by omega),if_neg (by omega)]
  congr 1;omega
theorem wild_loud {j:Nat}{E:Env}{base:Nat} (hj:j<ops.size) (h:(loAt (drawLo ops) ops base j E).loud=true):loudAt ops.toList j=true∧wildAt ops j=true:=by
  have:loudAt ops.toList j=true:=by rw[← drawLo_loud hj];exact h
  exact⟨this,by unfold wildAt;rw[this];rfl⟩
theorem wild_free {j:Nat}{E:Env}{base:Nat} (h:(loAt (drawLo ops) ops base j E).free):freeAt ops j=true∧OldT (oldOf ops j) base E∧wildAt ops j=true:=by
  have h1:freeAt ops j=true:=by rw[← drawLo_free];exact h.2.1
  exact⟨h1,h.2.2,by unfold wildAt;rw[h1,Bool.or_true]⟩
theorem wild_calm {j:Nat}{E:Env}{base:Nat}{S S':St} (h:(loAt (drawLo ops) ops base j E).calm S S'):calmAt ops j=true∧CalmT (oldOf ops j) E S S'∧wildAt ops j=true:=by
  have h1:calmAt ops j=true:=by rw[← drawLo_calm];exact h.2.1
  have h2:=h1
  unfold calmAt at h2
  rw[Bool.and_eq_true] at h2
  exact⟨h1,h.2.2,by unfold wildAt;rw[h2.1,Bool.or_true]⟩
structure Given (P:Program) (ops:Array Oper) (sp:Spl) (ol:Old) (E0:Env) (S0:St) (base:Nat) (out:Nat→Out):Prop where
  ok:DrawOk P ops sp ol
  step:∀ k (h:k<ops.size),Step1 (loAt (drawLo ops) ops base k (envL ops out E0 allL k)) P ops (base+k) ops[k] (envL ops out E0 allL k) (stL out S0 allL k) (out k)
  few:S0.n≤globalsAt
  sep:SepT sp E0
  old:OldT ol base E0
  fresh:∀ q,q<ops.size→S0.B (base+q)=none
def Shut (ops:Array Oper) (L:Nat→Bool):Prop:=∀ i (h:i<ops.size),L i=true→∀ e∈(ops[i]).after.toList,Region.binds .any e=true→L e.on=true
theorem Shut.anc {L:Nat→Bool} (hs:Shut ops L) {i j:Nat} (hi:i<ops.size) (hL:∀ e∈(ops[i]).after.toList,Region.binds .any e=true→L e.on=true) (h:anc ops.toList i j=true):L j=true:=by
  induction i using Nat.strongRecOn with
  | _ i ih =>
    obtain⟨e,h1,h2,h3⟩:=anc_step (by simpa using hi) h
    have hle:=hL e (by simpa using h1) h2
    rcases h3 with h3 | ⟨hlt,h3⟩
    · rw[← h3];exact hle
    · exact ih e.on hlt (by omega) (hs e.on (by omega) hle) h3
variable {L:Nat→Bool}
theorem cmp_listed (g:DrawOk P ops sp ol) (hs:Shut ops L) {i j:Nat} (hi:i<ops.size) (hj:j<ops.size) (hLi:L i=false) (hp:∀ e∈(ops[i]).after.toList,Region.binds .any e=true→L e.on=true) (hc:cmp ops.toList i j=true∨cmp ops.toList j i=true) (hne:i≠j):L j=decide (j<i):=by
  have hc':anc ops.toList i j=true∨anc ops.toList j i=true:=by
    unfold cmp at hc
    simp only[Bool.or_eq_true] at hc
    rcases hc with h | h
    · exact h
    · exact h.symm
  rcases hc' with h | h
  · have:=anc_lt g hi h
    rw[Shut.anc hs hi hp h];simp[this]
  · have hlt:=anc_lt g hj h
    have:L j=false:=by
      cases hb:L j with
      | false=>rfl
      | true =>
        have:=Shut.anc hs hj (hs j hj hb) h
        rw[hLi] at this;cases this
    rw[this];simp;omega
theorem not_cmp (g:DrawOk P ops sp ol) (hs:Shut ops L) {i j:Nat} (hi:i<ops.size) (hj:j<ops.size) (hLi:L i=false) (hLj:L j=true) (hlt:i<j):cmp ops.toList j i=false∧cmp ops.toList i j=false:=by
  have a:anc ops.toList j i=false:=by
    cases hb:anc ops.toList j i with
    | false=>rfl
    | true =>
      have:=Shut.anc hs hj (hs j hj hLj) hb
      rw[hLi] at this;cases this
  have b:anc ops.toList i j=false:=by
    cases hb:anc ops.toList i j with
    | false=>rfl
    | true =>
      have:=anc_lt g hi hb
      omega
  unfold cmp
  simp[a,b]
theorem stE_at (j k:Nat) (E:Env):stE ops out j E k=if ((ops[j]?).bind (·.dst))=some k then some (out j).s else E k:=by
  unfold stE
  cases ho:ops[j]? with
  | none=>simp
  | some o =>
    obtain⟨dst,op,ty,pos,after,guard⟩:=o
    simp only[Option.bind_some]
    cases dst with
    | none=>simp[Env.put]
    | some d =>
      simp only[Env.put,Option.some.injEq]
      by_cases e:d=k
      · subst e;simp[upd_same]
      · rw[upd_ne _ _ (fun h=>e h.symm),if_neg e]
theorem envL_at (k n:Nat):envL ops out E0 L n k=foldF (fun j x=>if ((ops[j]?).bind (·.dst))=some k then some (out j).s else x) L n (E0 k):=by
  unfold envL
  induction n with
  | zero=>rfl
  | succ n ih =>
    simp only[foldF]
    split
    · rw[stE_at,ih]
    · exact ih
theorem slot_same (g:Given P ops sp ol E0 S0 base out) (hs:Shut ops L) {i:Nat} (hi:i<ops.size) (hLi:L i=false) (hp:∀ e∈(ops[i]).after.toList,Region.binds .any e=true→L e.on=true) {k:Nat} (hk:k∈looksAt ops ops[i]) :
    envL ops out E0 L ops.size k=envL ops out E0 allL i k:=by
  rw[envL_at,envL_at, ← foldF_lt (k:=i) (n:=ops.size) (by omega)]
  refine foldF_congr fun j hj=>?_
  by_cases hd:(ops[j]?).bind (·.dst)=some k
  · refine .inr ?_
    have hd':(ops[j]).dst=some k:=by rw[Array.getElem?_eq_getElem hj] at hd;simpa using hd
    rcases Nat.lt_trichotomy j i with h | h | h
    · rcases g.ok.pair i j hi hj h with hc | ⟨h1,_,_⟩
      · exact cmp_listed g.ok hs hi hj hLi hp (.inl hc) (by omega)
      · exact absurd hk (h1 k hd')
    · subst h;rw[hLi];simp
    · rcases g.ok.pair j i hj hi h with hc | ⟨_,h2,_⟩
      · exact cmp_listed g.ok hs hi hj hLi hp (.inr hc) (by omega)
      · exact absurd hk (h2 k hd')
  · exact .inl fun y=>if_neg hd
theorem glob_same (g:Given P ops sp ol E0 S0 base out) {k:Nat} (hk:globalsAt≤k) (L M:Nat→Bool) (n m:Nat) (hn:n≤ops.size) (hm:m≤ops.size):envL ops out E0 L n k=envL ops out E0 M m k:=by
  have key:∀ (L:Nat→Bool) n,n≤ops.size→envL ops out E0 L n k=E0 k:=by
    intro L n hn
    rw[envL_at]
    induction n with
    | zero=>rfl
    | succ n ih =>
      have hne:¬ ((ops[n]?).bind (·.dst)=some k):=by
        rw[Array.getElem?_eq_getElem (by omega)]
        intro e
        have h1:=dstOk_ok (g.step n (by omega)).1 k (by simpa using e)
        have h2:(stL out S0 allL n).n=S0.n:=rfl
        have:=g.few
        omega
      simp only[foldF,if_neg hne]
      split<;>exact ih (by omega)
  rw[key L n hn,key M m hm]
theorem operand_same (g:Given P ops sp ol E0 S0 base out) (hs:Shut ops L) {i:Nat} (hi:i<ops.size) (hLi:L i=false) (hp:∀ e∈(ops[i]).after.toList,Region.binds .any e=true→L e.on=true) {x:Operand} (hx:x∈(ops[i]).op.operands) :
    evalO (envL ops out E0 L ops.size) x=evalO (envL ops out E0 allL i) x:=by
  cases x with
  | tmp t=>simp only[evalO,slot_same g hs hi hLi hp (looksAt_operand hx)]
  | const c=>rfl
  | func f=>rfl
  | global gl=>exact glob_same g (by omega) _ _ _ _ (Nat.le_refl _) (by omega)
theorem fB_id (g:Given P ops sp ol E0 S0 base out) {j:Nat} (hj:j<ops.size) (h:(memOf (ops[j]).op).wB=false) (hl:wildAt ops j=true→isCall (ops[j]).op=false):∀ B,(out j).fB B=B:=by
  obtain⟨_,hw,ht,hf⟩:=g.step j hj
  intro B
  cases hb:(out j).w with
  | false=>rw[hf hb]
  | true =>
    have:=ht hb
    generalize out j=ot at *
    cases this with
    | op hc he =>
      rename_i s e
      have k:=evalOp_eff he
      cases e with
      | no=>rfl
      | new cs=>have:=k.new cs rfl;rw[h] at this;cases this
      | set b cs=>have:=(k.set b cs rfl).1;rw[h] at this;cases this
      | tip i k sz=>rfl
      | mov b cs=>have:=(k.mov b cs rfl).1;rw[h] at this;cases this
    | call=>rfl
    | inv=>rfl
    | dyn=>rfl
    | loud h1 hc ha hlc =>
      have:=hl (wild_loud hj h1).2
      unfold isCall at this
      rw[hc] at this;cases this
    | own h1 hc ha hlc => 
      have:=hl (wild_free h1).2.2
      unfold isCall at this
      rw[hc] at this;cases this
    | calm h1 hc =>
      have:=hl (wild_calm h1).2.2
      unfold isCall at this
      rw[hc] at this;cases this
theorem fT_id (g:Given P ops sp ol E0 S0 base out) {j:Nat} (hj:j<ops.size) (h:(memOf (ops[j]).op).wT=false) (hl:wildAt ops j=true→isCall (ops[j]).op=false):∀ T,(out j).fT T=T:=by
  obtain⟨_,hw,ht,hf⟩:=g.step j hj
  intro T
  cases hb:(out j).w with
  | false=>rw[hf hb]
  | true =>
    have:=ht hb
    generalize out j=ot at *
    cases this with
    | op hc he =>
      rename_i s e
      have k:=evalOp_eff he
      cases e with
      | no=>rfl
      | new cs=>rfl
      | set b cs=>rfl
      | tip i k' sz=>have:=(k.tip i k' sz rfl).1;rw[h] at this;cases this
      | mov b cs=>rfl
    | call=>rfl
    | inv=>rfl
    | dyn=>rfl
    | loud h1 hc ha hlc =>
      have:=hl (wild_loud hj h1).2
      unfold isCall at this
      rw[hc] at this;cases this
    | own h1 hc ha hlc=>rfl
    | calm h1 hc =>
      have:=hl (wild_calm h1).2.2
      unfold isCall at this
      rw[hc] at this;cases this
theorem fx_id (g:Given P ops sp ol E0 S0 base out) {j:Nat} (hj:j<ops.size) (hl:wildAt ops j=true→isCall (ops[j]).op=false):∀ x,(out j).fx x=x:=by
  obtain⟨_,hw,ht,hf⟩:=g.step j hj
  intro x
  cases hb:(out j).w with
  | false=>rw[hf hb]
  | true =>
    have:=ht hb
    generalize out j=ot at *
    cases this with
    | op hc he=>rfl
    | call=>rfl
    | inv=>rfl
    | dyn=>rfl
    | loud h1 hc ha hlc =>
      have:=hl (wild_loud hj h1).2
      unfold isCall at this
      rw[hc] at this;cases this
    | own h1 hc ha hlc => 
      have:=hl (wild_free h1).2.2
      unfold isCall at this
      rw[hc] at this;cases this
    | calm h1 hc =>
      have:=hl (wild_calm h1).2.2
      unfold isCall at this
      rw[hc] at this;cases this
theorem loud_cmp {i j:Nat} (hl:loudAt ops.toList i=true) (hj:j<ops.size) (hne:j≠i) (h:isCall (ops[j]).op=true∨touches (ops[j]).op=true):cmp ops.toList i j=true:=by
  unfold loudAt at hl
  simp only[Bool.and_eq_true] at hl
  have:=List.all_eq_true.1 hl.2 j (List.mem_range.2 (by simpa using hj))
  simp only[Bool.or_eq_true,beq_iff_eq] at this
  rcases this with (h1 | h1) | h1
  · exact absurd h1 hne
  · exact h1
  · simp[hj] at h1
    rcases h with h | h
    · rw[h1.1] at h;cases h
    · rw[h1.2] at h;cases h
theorem wild_cmp {i j:Nat} (hl:wildAt ops i=true) (hj:j<ops.size) (hne:j≠i) (h:isCall (ops[j]).op=true∨touches (ops[j]).op=true):cmp ops.toList i j=true∨isNew (ops[j]).op=true∨(isLoad (ops[j]).op=true∧rootFree ops j=true∧freeAt ops i=true):=by
  unfold wildAt at hl
  rcases Bool.or_eq_true_iff.1 hl with hl | hl
  · exact .inl (loud_cmp hl hj hne h)
  · have hf:=hl
    unfold freeAt at hl
    simp only[Bool.and_eq_true] at hl
    have:=List.all_eq_true.1 hl.2 j (List.mem_range.2 hj)
    simp only[Bool.or_eq_true,beq_iff_eq] at this
    rcases this with ((h1 | h1) | h1) | h1
    · exact absurd h1 hne
    · exact .inl h1
    · simp[hj] at h1
      rcases h with h | h
      · rw[h1.1] at h;cases h
      · rw[h1.2] at h;cases h
    · simp[hj] at h1
      rcases h1 with h1 | ⟨h1,h2⟩
      · exact .inr (.inl h1)
      · exact .inr (.inr ⟨h1,h2,hf⟩)
theorem touch_of {op:Op} (h:(memOf op).rB=true∨(memOf op).wB=true∨(memOf op).rT=true∨(memOf op).wT=true):touches op=true:=by
  unfold touches
  rcases h with h | h | h | h<;>simp[h]
theorem part_same {X:Type}{f:Nat→X→X}{i:Nat} (hi:i<ops.size) (x:X) (h:∀ j (hj:j<ops.size),(∀ y,f j y=y)∨L j=decide (j<i)):foldF f L ops.size x=foldF f allL i x:=by
  rw[← foldF_lt (k:=i) (n:=ops.size) (by omega)]
  exact foldF_congr fun j hj=>h j hj
theorem B_same (g:Given P ops sp ol E0 S0 base out) (hs:Shut ops L) {i:Nat} (hi:i<ops.size) (hLi:L i=false) (hp:∀ e∈(ops[i]).after.toList,Region.binds .any e=true→L e.on=true)
    (hall:∀ j (hj:j<ops.size),j≠i→((memOf (ops[j]).op).wB=true∨(wildAt ops j=true∧isCall (ops[j]).op=true))→(cmp ops.toList i j=true∨cmp ops.toList j i=true)∨∀ y,(out j).fB y=y):(stL out S0 L ops.size).B=(stL out S0 allL i).B:=by
  refine part_same hi _ fun j hj=>?_
  by_cases e:j=i
  · subst e;exact .inr (by rw[hLi];simp)
  by_cases h1:(memOf (ops[j]).op).wB=true
  · exact (hall j hj e (.inl h1)).symm.imp id fun k=>cmp_listed g.ok hs hi hj hLi hp k (fun h=>e h.symm)
  · by_cases h2:wildAt ops j=true∧isCall (ops[j]).op=true
    · exact (hall j hj e (.inr h2)).symm.imp id fun k=>cmp_listed g.ok hs hi hj hLi hp k (fun h=>e h.symm)
    · exact .inl (fB_id g hj (by simpa using h1) (fun h=>by
        cases hb:isCall (ops[j]).op with
        | false=>rfl
        | true=>exact absurd ⟨h,hb⟩ h2))
theorem T_same (g:Given P ops sp ol E0 S0 base out) (hs:Shut ops L) {i:Nat} (hi:i<ops.size) (hLi:L i=false) (hp:∀ e∈(ops[i]).after.toList,Region.binds .any e=true→L e.on=true)
    (hall:∀ j (hj:j<ops.size),j≠i→((memOf (ops[j]).op).wT=true∨(wildAt ops j=true∧isCall (ops[j]).op=true))→(cmp ops.toList i j=true∨cmp ops.toList j i=true)∨∀ y,(out j).fT y=y):(stL out S0 L ops.size).T=(stL out S0 allL i).T:=by
  refine part_same hi _ fun j hj=>?_
  by_cases e:j=i
  · subst e;exact .inr (by rw[hLi];simp)
  by_cases h1:(memOf (ops[j]).op).wT=true
  · exact (hall j hj e (.inl h1)).symm.imp id fun k=>cmp_listed g.ok hs hi hj hLi hp k (fun h=>e h.symm)
  · by_cases h2:wildAt ops j=true∧isCall (ops[j]).op=true
    · exact (hall j hj e (.inr h2)).symm.imp id fun k=>cmp_listed g.ok hs hi hj hLi hp k (fun h=>e h.symm)
    · exact .inl (fT_id g hj (by simpa using h1) (fun h=>by
        cases hb:isCall (ops[j]).op with
        | false=>rfl
        | true=>exact absurd ⟨h,hb⟩ h2))
theorem x_same (g:Given P ops sp ol E0 S0 base out) (hs:Shut ops L) {i:Nat} (hi:i<ops.size) (hLi:L i=false) (hp:∀ e∈(ops[i]).after.toList,Region.binds .any e=true→L e.on=true)
    (hall:∀ j (hj:j<ops.size),j≠i→(wildAt ops j=true∧isCall (ops[j]).op=true)→(cmp ops.toList i j=true∨cmp ops.toList j i=true)∨∀ y,(out j).fx y=y):(stL out S0 L ops.size).nx=(stL out S0 allL i).nx:=by
  refine part_same hi _ fun j hj=>?_
  by_cases e:j=i
  · subst e;exact .inr (by rw[hLi];simp)
  by_cases h2:wildAt ops j=true∧isCall (ops[j]).op=true
  · exact (hall j hj e h2).symm.imp id fun k=>cmp_listed g.ok hs hi hj hLi hp k (fun h=>e h.symm)
  · exact .inl (fx_id g hj (fun h=>by
      cases hb:isCall (ops[j]).op with
      | false=>rfl
      | true=>exact absurd ⟨h,hb⟩ h2))
theorem clash_cmp (g:DrawOk P ops sp ol) {i j:Nat} (hi:i<ops.size) (hj:j<ops.size) (hne:j≠i) (h:clash (memOf (ops[i]).op) (memOf (ops[j]).op)=true) (h':clash (memOf (ops[j]).op) (memOf (ops[i]).op)=true):(cmp ops.toList i j=true∨cmp ops.toList j i=true)∨SpHas sp i j∨SpHas sp j i∨OlHas ol i j∨EarHas ops i j∨EarHas ops j i∨LatHas ops i j∨LatHas ops j i:=by
  rcases Nat.lt_trichotomy j i with hlt | e | hlt
  · rcases g.pair i j hi hj hlt with hc | ⟨_,_,h3 | h3 | h3 | h3 | h3⟩
    · exact .inl (.inl hc)
    · rw[h] at h3;cases h3
    · exact .inr (.inl h3)
    · exact .inr (.inr (.inr (.inl h3)))
    · exact .inr (.inr (.inr (.inr (.inl h3))))
    · exact .inr (.inr (.inr (.inr (.inr (.inr (.inl h3))))))
  · exact absurd e hne
  · rcases g.pair j i hj hi hlt with hc | ⟨_,_,h3 | h3 | ⟨p,hp,h3⟩ | h3 | h3⟩
    · exact .inl (.inr hc)
    · rw[h'] at h3;cases h3
    · exact .inr (.inr (.inl h3))
    · exact .inr (.inr (.inr (.inl ⟨p,hp,h3.symm⟩)))
    · exact .inr (.inr (.inr (.inr (.inr (.inl h3)))))
    · exact .inr (.inr (.inr (.inr (.inr (.inr (.inr h3))))))
theorem isNew_mem {op:Op} (h:isNew op=true):(memOf op).rB=false∧(memOf op).rT=false∧(memOf op).wT=false∧callOf op=none:=by
  unfold isNew at h
  split at h
  · exact⟨rfl,rfl,rfl,rfl⟩
  · exact⟨rfl,rfl,rfl,rfl⟩
  · cases h
theorem addr_mem {op:Op}{x:Operand} (h:addrX op=some x):(memOf op).wT=false∧(memOf op).rT=false∧isCall op=false:=by
  unfold addrX at h
  split at h
  · exact⟨rfl,rfl,rfl⟩
  · exact⟨rfl,rfl,rfl⟩
  · cases h
theorem refOf_tmp {E:Env}{u b:Nat}{s:SV} (h:evalO E (.tmp u)=some s) (hb:refOf (E u)=some b):refOf (some s)=some b:=by
  simp only[evalO] at h
  split at h
  · rw[← h];exact hb
  · cases h
theorem rootOf_ok (g:Given P ops sp ol E0 S0 base out):∀ {n t s b:Nat},n≤ops.size→rootOf ops n t=some s→refOf (E0 s)=some b→refOf (envL ops out E0 allL n t)=some b
  | 0,t,s,b,_,h,hb=>by cases h;exact hb
  | n+1,t,s,b,hn,h,hb=>by
    show refOf (stE ops out n (envL ops out E0 allL n) t)=some b
    have hlt:n<ops.size:=by omega
    rw[stE_at]
    unfold rootOf at h
    rw[Array.getElem?_eq_getElem hlt] at h ⊢
    simp only[Option.bind_some] at h ⊢
    by_cases e:(ops[n]).dst=some t
    · rw[if_pos e] at h ⊢
      obtain⟨_,hw,ht,hf⟩:=g.step n hlt
      have main:(ops[n]).guard=none→(out n).w=true:=fun hg=>by
        unfold wantS at hw
        rw[hg] at hw
        simpa using hw.symm
      split at h
      · rename_i u hg ho
        have k:=ht (main hg)
        have ih:=rootOf_ok g (by omega) h hb
        generalize out n=ot at k ⊢
        cases k with
        | op hc he =>
          simp only[evalOp,ho,Option.map_eq_some_iff,Prod.mk.injEq] at he
          obtain⟨s',h1,rfl,_⟩:=he
          exact refOf_tmp h1 ih
        | call hc=>rw[ho] at hc;cases hc
        | inv hc=>rw[ho] at hc;cases hc
        | dyn hc=>rw[ho] at hc;cases hc
        | loud hl hc=>rw[ho] at hc;cases hc
        | own hl hc=>rw[ho] at hc;cases hc
        | calm hl hc=>rw[ho] at hc;cases hc
      · rename_i T u k' hg ho
        have k:=ht (main hg)
        have ih:=rootOf_ok g (by omega) h hb
        generalize out n=ot at k ⊢
        cases k with
        | op hc he =>
          simp only[evalOp,ho] at he
          split at he
          · rename_i h1 h2
            have:=refOf_tmp h1 ih
            cases this
          · rename_i h1 h2
            have:=refOf_tmp h1 ih
            simp only[refOf,Option.some.injEq] at this
            simp only[Option.some.injEq,Prod.mk.injEq] at he
            obtain⟨rfl,_⟩:=he
            simp only[refOf,this]
          · cases he
        | call hc=>rw[ho] at hc;cases hc
        | inv hc=>rw[ho] at hc;cases hc
        | dyn hc=>rw[ho] at hc;cases hc
        | loud hl hc=>rw[ho] at hc;cases hc
        | own hl hc=>rw[ho] at hc;cases hc
        | calm hl hc=>rw[ho] at hc;cases hc
      · rename_i u hg ho
        have k:=ht (main hg)
        have ih:=rootOf_ok g (by omega) h hb
        generalize out n=ot at k ⊢
        cases k with
        | op hc he =>
          simp only[evalOp,ho] at he
          split at he
          · rename_i s' h1
            split at he
            · simp only[Option.some.injEq,Prod.mk.injEq] at he
              obtain⟨rfl,_⟩:=he
              exact refOf_tmp h1 ih
            · cases he
          · cases he
        | call hc=>rw[ho] at hc;cases hc
        | inv hc=>rw[ho] at hc;cases hc
        | dyn hc=>rw[ho] at hc;cases hc
        | loud hl hc=>rw[ho] at hc;cases hc
        | own hl hc=>rw[ho] at hc;cases hc
        | calm hl hc=>rw[ho] at hc;cases hc
      · cases h
    · rw[if_neg e] at h ⊢
      exact rootOf_ok g (by omega) h hb
theorem at_form (g:Given P ops sp ol E0 S0 base out) {x:Nat×Nat} (hx:SpAt ops x) {b:Nat} (hb0:refOf (E0 x.2)=some b):(∀ B,(out x.1).fB B=B)∨∃ cs,∀ B,(out x.1).fB B=upd B b cs:=by
  obtain⟨hi,t,ha,hg,hl⟩:=hx
  have hs:=rootOf_ok g (by omega) hl hb0
  obtain⟨_,hw,ht,hf⟩:=g.step x.1 hi
  cases hb:(out x.1).w with
  | false=>rw[hf hb];exact .inl fun _=>rfl
  | true =>
    have:=ht hb
    have hcl:=(addr_mem ha).2.2
    generalize out x.1=ot at this ⊢
    cases this with
    | op hc he =>
      rename_i s e
      cases e with
      | no=>exact .inl fun _=>rfl
      | new cs =>
        have:=(evalOp_eff he).new cs rfl
        unfold addrX at ha
        split at ha
        · rename_i h;rw[h] at this;cases this
        · rename_i T z y h
          unfold evalOp at he
          rw[h] at he
          simp only at he
          split at he
          · split at he
            · obtain⟨_,h5⟩:=onlyIf_ok he
              simp only[Prod.mk.injEq] at h5
              cases h5.2
            · cases he
          · cases he
        · cases ha
      | set b1 cs =>
        refine .inr ⟨cs,fun _=>?_⟩
        unfold addrX at ha
        split at ha
        · rename_i h
          have:=((evalOp_eff he).set b1 cs rfl).1
          rw[h] at this;cases this
        · rename_i T z y h
          cases ha
          unfold evalOp at he
          rw[h] at he
          simp only at he
          split at he
          · rename_i b' off s' n' h6 h7 h8
            split at he
            · obtain⟨_,h5⟩:=onlyIf_ok he
              simp only[Prod.mk.injEq,Eff.set.injEq] at h5
              obtain⟨_,rfl,_⟩:=h5
              have:=refOf_tmp h6 hs
              simp only[refOf,Option.some.injEq] at this
              rw[this];rfl
            · cases he
          · cases he
        · cases ha
      | tip i k sz=>exact .inl fun _=>rfl
      | mov b1 cs =>
        have:=(evalOp_eff he).mov b1 cs rfl
        unfold addrX at ha
        split at ha
        · rename_i h;rw[h] at this;cases this.1
        · rename_i T z y h
          unfold evalOp at he
          rw[h] at he
          simp only at he
          split at he
          · split at he
            · obtain⟨_,h5⟩:=onlyIf_ok he
              simp only[Prod.mk.injEq] at h5
              cases h5.2
            · cases he
          · cases he
        · cases ha
    | call=>exact .inl fun _=>rfl
    | inv=>exact .inl fun _=>rfl
    | dyn=>exact .inl fun _=>rfl
    | loud h1 hc =>
      unfold isCall at hcl
      rw[hc] at hcl;cases hcl
    | own h1 hc =>
      unfold isCall at hcl
      rw[hc] at hcl;cases hcl
    | calm h1 hc =>
      unfold isCall at hcl
      rw[hc] at hcl;cases hcl
theorem sep_far (g:Given P ops sp ol E0 S0 base out) {x y:Nat×Nat} (hx:SpAt ops x) (hy:SpAt ops y) (h:apart (refOf (E0 x.2)) (refOf (E0 y.2))) :
    ∃ b,addrB (envL ops out E0 allL x.1) ((ops[x.1]?).map (·.op)).get!=some b∧∀ B,(out y.1).fB B b=B b:=by
  obtain⟨hi,t,ha,hg,hl⟩:=id hx
  cases hb:refOf (E0 x.2) with
  | none=>rw[hb] at h;exact h.elim
  | some b =>
    refine⟨b,?_,fun B=>?_⟩
    · rw[Array.getElem?_eq_getElem hi]
      simp only[Option.map_some,Option.get!_some,addrB,ha,evalO,if_pos hg]
      exact rootOf_ok g (by omega) hl hb
    · rw[hb] at h
      cases hc:refOf (E0 y.2) with
      | none=>rw[hc] at h;exact h.elim
      | some c =>
        rw[hc] at h
        rcases at_form g hy hc with k | ⟨cs,k⟩
        · rw[k]
        · rw[k];exact upd_ne _ _ h
theorem new_form (g:Given P ops sp ol E0 S0 base out) {j:Nat} (hj:NewAt ops j):(∀ B,(out j).fB B=B)∨∃ cs,∀ B,(out j).fB B=upd B (base+j) cs:=by
  obtain⟨hlt,hn⟩:=hj
  obtain⟨_,hw,ht,hf⟩:=g.step j hlt
  cases hb:(out j).w with
  | false=>rw[hf hb];exact .inl fun _=>rfl
  | true =>
    have:=ht hb
    have hc0:=(isNew_mem hn).2.2.2
    generalize out j=ot at this ⊢
    cases this with
    | op hc he =>
      rename_i s e
      cases e with
      | no=>exact .inl fun _=>rfl
      | new cs=>exact .inr ⟨cs,fun _=>rfl⟩
      | tip i k sz=>exact .inl fun _=>rfl
      | set b cs =>
        have:=((evalOp_eff he).set b cs rfl).2
        unfold isNew at hn
        split at hn
        · rename_i h;rw[h] at this;cases this
        · rename_i h;rw[h] at this;cases this
        · cases hn
      | mov b cs =>
        have:=((evalOp_eff he).mov b cs rfl).2
        unfold isNew at hn
        split at hn
        · rename_i h;rw[h] at this;cases this
        · rename_i h;rw[h] at this;cases this
        · cases hn
    | call hc=>rw[hc0] at hc;cases hc
    | inv hc=>rw[hc0] at hc;cases hc
    | dyn hc=>rw[hc0] at hc;cases hc
    | loud h1 hc=>rw[hc0] at hc;cases hc
    | own h1 hc=>rw[hc0] at hc;cases hc
    | calm h1 hc=>rw[hc0] at hc;cases hc
theorem freshRow_ok (g:Given P ops sp ol E0 S0 base out):∀ {n t:Nat},n≤ops.size→freshRow ops n t=true→∀ b m z,envL ops out E0 allL n t≠some (.sk b m z)
  | 0,t,_,h=>by cases h
  | n+1,t,hn,h=>by
    show ∀ b m z,stE ops out n (envL ops out E0 allL n) t≠some (.sk b m z)
    have hlt:n<ops.size:=by omega
    rw[stE_at]
    unfold freshRow at h
    rw[Array.getElem?_eq_getElem hlt] at h ⊢
    simp only[Option.bind_some] at h ⊢
    by_cases e:(ops[n]).dst=some t
    · rw[if_pos e] at h ⊢
      obtain⟨_,hw,ht,hf⟩:=g.step n hlt
      split at h
      · rename_i T k ps hg ho
        have hwt:(out n).w=true:=by
          unfold wantS at hw
          rw[hg] at hw
          simpa using hw.symm
        have k:=ht hwt
        generalize out n=ot at k ⊢
        cases k with
        | op hc he =>
          rename_i s e'
          have hsk:∀ b m z,s≠.sk b m z:=by
            simp only[evalOp,ho] at he
            split at he
            · simp only[Option.map_eq_some_iff,Prod.mk.injEq] at he
              obtain⟨_,_,rfl,_⟩:=he
              exact fun b m z=>nofun
            · split at he
              · split at he
                · simp only[Option.bind_eq_some_iff] at he
                  obtain⟨_,_,h3⟩:=he
                  unfold rowE at h3
                  split at h3
                  · cases h3
                  · simp only[Option.some.injEq,Prod.mk.injEq] at h3
                    obtain⟨rfl,_⟩:=h3
                    exact fun b m z=>nofun
                · cases he
              · simp only[Option.bind_eq_some_iff] at he
                obtain⟨_,_,h3⟩:=he
                unfold rowEL at h3
                split at h3
                · cases h3
                · simp only[Option.some.injEq,Prod.mk.injEq] at h3
                  obtain⟨rfl,_⟩:=h3
                  exact fun b m z=>nofun
          exact fun b m z e=>hsk b m z (Option.some.inj e)
        | call hc=>rw[ho] at hc;cases hc
        | inv hc=>rw[ho] at hc;cases hc
        | dyn hc=>rw[ho] at hc;cases hc
        | loud hl hc=>rw[ho] at hc;cases hc
        | own hl hc=>rw[ho] at hc;cases hc
        | calm hl hc=>rw[ho] at hc;cases hc
      · cases h
    · rw[if_neg e] at h ⊢
      exact freshRow_ok g (by omega) h
theorem append_new {S:St}{id:Nat}{d:Option Nat}{T:TypeId}{s t r:SV}{e:Eff} (h:evalAppend P S id d T s t=some (r,e)) (hs:∀ b m z,s≠.sk b m z):∀ b cs,e≠.set b cs∧e≠.mov b cs:=by
  unfold evalAppend at h
  split at h
  · split at h
    · split at h
      · simp only[Option.some.injEq,Prod.mk.injEq] at h;obtain⟨rfl,rfl⟩:=h;exact fun b cs=>⟨nofun,nofun⟩
      · split at h
        · obtain⟨_,h5⟩:=onlyIf_ok h
          simp only[Prod.mk.injEq] at h5;obtain⟨rfl,rfl⟩:=h5;exact fun b cs=>⟨nofun,nofun⟩
        split at h
        · obtain⟨_,h5⟩:=onlyIf_ok h
          simp only[Prod.mk.injEq] at h5;obtain⟨rfl,rfl⟩:=h5;exact fun b cs=>⟨nofun,nofun⟩
        · obtain⟨_,h5⟩:=onlyIf_ok h
          simp only[Prod.mk.injEq] at h5;obtain⟨rfl,rfl⟩:=h5;exact fun b cs=>⟨nofun,nofun⟩
    · obtain⟨_,h5⟩:=onlyIf_ok h
      simp only[Prod.mk.injEq] at h5;obtain⟨rfl,rfl⟩:=h5;exact fun b cs=>⟨nofun,nofun⟩
    · exact absurd rfl (hs _ _ _)
    · cases h
  · unfold appV at h
    split at h
    · split at h
      · obtain⟨_,h5⟩:=onlyIf_ok h
        simp only[Prod.mk.injEq] at h5;obtain⟨rfl,rfl⟩:=h5;exact fun b cs=>⟨nofun,nofun⟩
      · exact absurd rfl (hs _ _ _)
      · cases h
    · cases h
  · cases h
theorem maker_form (g:Given P ops sp ol E0 S0 base out) {j:Nat} (hlt:j<ops.size) (hj:isMaker ops j=true):(∀ B,(out j).fB B=B)∨∃ cs,∀ B,(out j).fB B=upd B (base+j) cs:=by
  unfold isMaker at hj
  rw[Array.getElem?_eq_getElem hlt] at hj
  simp only[Bool.or_eq_true] at hj
  rcases hj with hj | hj
  · exact new_form g ⟨hlt,hj⟩
  split at hj
  · rename_i xs ts ho
    split at hj
    · rename_i t y hxs
      simp only[Bool.and_eq_true,decide_eq_true_eq] at hj
      have hsk:=freshRow_ok g (by omega) hj.2
      obtain⟨_,hw,ht,hf⟩:=g.step j hlt
      cases hb:(out j).w with
      | false=>rw[hf hb];exact .inl fun _=>rfl
      | true =>
        have:=ht hb
        generalize out j=ot at this ⊢
        cases this with
        | op hc he =>
          rename_i s e
          have he':∃ s0 t0 T,evalO (envL ops out E0 allL j) (.tmp t)=some s0∧evalAppend P (stL out S0 allL j) (base+j) (ops[j]).dst T s0 t0=some (s,e):=by
            simp only[evalOp,ho] at he
            split at he
            · rename_i h1 _
              rw[hxs] at h1;cases h1
            · rename_i x' y' T T' h1 h2
              rw[hxs] at h1
              simp only[List.cons.injEq] at h1
              obtain⟨rfl,rfl,_⟩:=h1
              split at he
              · rename_i s0 t0 q1 q2
                split at he
                · exact⟨s0,t0,_,q1,he⟩
                · cases he
              · cases he
            · rename_i hno e1 _ _
              injection e1 with e1
              exact absurd e1.symm hno
            · cases he
          obtain⟨s0,t0,T,q1,q2⟩:=he'
          simp only[evalO,if_pos hj.1] at q1
          have hk:=append_new q2 fun b m z e0=>hsk b m z (by rw[q1,e0])
          cases e with
          | no=>exact .inl fun _=>rfl
          | new cs=>exact .inr ⟨cs,fun _=>rfl⟩
          | tip i k sz=>exact .inl fun _=>rfl
          | set b cs=>exact absurd rfl (hk b cs).1
          | mov b cs=>exact absurd rfl (hk b cs).2
        | call hc=>rw[ho] at hc;cases hc
        | inv hc=>rw[ho] at hc;cases hc
        | dyn hc=>rw[ho] at hc;cases hc
        | loud h1 hc=>rw[ho] at hc;cases hc
        | own h1 hc=>rw[ho] at hc;cases hc
        | calm h1 hc=>rw[ho] at hc;cases hc
    · cases hj
  · cases hj
theorem old_far (g:Given P ops sp ol E0 S0 base out) {p:(Nat×Nat)×Nat} (hm:p∈ol) :
    ∃ b,addrB (envL ops out E0 allL p.1.1) ((ops[p.1.1]?).map (·.op)).get!=some b∧b<base∧∀ B,(out p.2).fB B b=B b:=by
  obtain⟨⟨hi,t,ha,hg,hl⟩,hn⟩:=g.ok.olOk p hm
  have hbl:=OldT.of g.old p hm
  cases hb:refOf (E0 p.1.2) with
  | none=>rw[hb] at hbl;exact hbl.elim
  | some b =>
    rw[hb] at hbl
    have hbl:b<base:=hbl
    refine⟨b,?_,hbl,fun B=>?_⟩
    · rw[Array.getElem?_eq_getElem hi]
      simp only[Option.map_some,Option.get!_some,addrB,ha,evalO,if_pos hg]
      exact rootOf_ok g (by omega) hl hb
    · rcases new_form g hn with k | ⟨cs,k⟩
      · rw[k]
      · rw[k];exact upd_ne _ _ (by omega)
theorem apart_symm {a b:Option Nat} (h:apart a b):apart b a:=by
  cases a<;>cases b
  all_goals first | exact h.elim | exact fun e=>h e.symm
theorem foldF_at {α β:Type}{f:Nat→(α→β)→(α→β)}{L M:Nat→Bool}{b:α}{x:α→β}:∀ {n:Nat},(∀ j,j<n→∀ y z:α→β,y b=z b→f j y b=f j z b)→(∀ j,j<n→(∀ y,f j y b=y b)∨L j=M j)→foldF (X:=α→β) f L n x b=foldF (X:=α→β) f M n x b:=by
  intro n
  induction n with
  | zero=>intro _ _;rfl
  | succ n ih0 =>
    intro hp h
    have ih:=ih0 (fun j hj=>hp j (by omega)) (fun j hj=>h j (by omega))
    show (if L n=true then f n (foldF f L n x) else foldF f L n x) b=(if M n=true then f n (foldF f M n x) else foldF f M n x) b
    rcases h n (by omega) with h1 | h1
    · by_cases a:L n=true<;>by_cases c:M n=true
      · rw[if_pos a,if_pos c,h1,h1];exact ih
      · rw[if_pos a,if_neg c,h1];exact ih
      · rw[if_neg a,if_pos c,h1];exact ih
      · rw[if_neg a,if_neg c];exact ih
    · rw[h1]
      by_cases c:M n=true
      · rw[if_pos c,if_pos c];exact hp n (by omega) _ _ ih
      · rw[if_neg c,if_neg c];exact ih
theorem fB_pw (g:Given P ops sp ol E0 S0 base out) {j:Nat} (hj:j<ops.size) {b:Nat}{y z:Nat→Option (List SV)} (h:y b=z b):(out j).fB y b=(out j).fB z b:=by
  obtain⟨_,hw,ht,hf⟩:=g.step j hj
  cases hb:(out j).w with
  | false=>rw[hf hb];exact h
  | true =>
    have:=ht hb
    generalize out j=ot at *
    cases this with
    | op hc he =>
      rename_i s e
      cases e with
      | no=>exact h
      | new cs=>simp only[effB,upd];split<;>first | rfl | exact h
      | set b cs=>simp only[effB,upd];split<;>first | rfl | exact h
      | tip i k sz=>exact h
      | mov b' cs =>
        simp only[effB,upd]
        split
        · rfl
        · split
          · rfl
          · exact h
    | call=>exact h
    | inv=>exact h
    | dyn=>exact h
    | loud=>rfl
    | own h1 hc ha hlc=>exact hlc.pw _ _ _ h
    | calm h1 hc ha hlc k1 k2 k3=>exact k3 _ _ _ h
theorem B_same_at3 (g:Given P ops sp ol E0 S0 base out) (hs:Shut ops L) {i b:Nat} (hi:i<ops.size) (hLi:L i=false) (hp:∀ e∈(ops[i]).after.toList,Region.binds .any e=true→L e.on=true)
    (hall:∀ j (hj:j<ops.size),j≠i→((memOf (ops[j]).op).wB=true∨(wildAt ops j=true∧isCall (ops[j]).op=true))→(cmp ops.toList i j=true∨cmp ops.toList j i=true)∨(∀ B,(out j).fB B b=B b)∨L j=decide (j<i)):(stL out S0 L ops.size).B b=(stL out S0 allL i).B b:=by
  show foldF _ L ops.size S0.B b=foldF _ allL i S0.B b
  rw[← foldF_lt (k:=i) (n:=ops.size) (by omega)]
  refine foldF_at (fun j hj y z h=>fB_pw g hj h) fun j hj=>?_
  by_cases e:j=i
  · subst e;exact .inr (by rw[hLi];simp)
  have quiet:((memOf (ops[j]).op).wB=true∨(wildAt ops j=true∧isCall (ops[j]).op=true))∨∀ B,(out j).fB B=B:=by
    by_cases h1:(memOf (ops[j]).op).wB=true
    · exact .inl (.inl h1)
    · by_cases h2:wildAt ops j=true∧isCall (ops[j]).op=true
      · exact .inl (.inr h2)
      · exact .inr (fB_id g hj (by simpa using h1) (fun h=>by
          cases hb:isCall (ops[j]).op with
          | false=>rfl
          | true=>exact absurd ⟨h,hb⟩ h2))
  rcases quiet with q | q
  · rcases hall j hj e q with h | h | h
    · exact .inr (cmp_listed g.ok hs hi hj hLi hp h (fun h=>e h.symm))
    · exact .inl h
    · exact .inr h
  · exact .inl fun y=>by rw[q]
theorem B_same_at (g:Given P ops sp ol E0 S0 base out) (hs:Shut ops L) {i b:Nat} (hi:i<ops.size) (hLi:L i=false) (hp:∀ e∈(ops[i]).after.toList,Region.binds .any e=true→L e.on=true)
    (hall:∀ j (hj:j<ops.size),j≠i→((memOf (ops[j]).op).wB=true∨(wildAt ops j=true∧isCall (ops[j]).op=true))→(cmp ops.toList i j=true∨cmp ops.toList j i=true)∨∀ B,(out j).fB B b=B b):(stL out S0 L ops.size).B b=(stL out S0 allL i).B b :=
  B_same_at3 g hs hi hLi hp fun j hj hne h=>(hall j hj hne h).imp id .inl
theorem clash_rB {a b:Mem} (h:a.rB=true) (k:b.wB=true):clash a b=true∧clash b a=true:=by constructor<;>simp[clash,h,k]
theorem clash_rT {a b:Mem} (h:a.rT=true) (k:b.wT=true):clash a b=true∧clash b a=true:=by constructor<;>simp[clash,h,k]
theorem wild_form (g:Given P ops sp ol E0 S0 base out) {j:Nat} (hj:j<ops.size) (hcall:isCall (ops[j]).op=true):((∀ B,(out j).fB B=B)∧(∀ T,(out j).fT T=T))∨loudAt ops.toList j=true ∨
    (freeAt ops j=true∧OldT (oldOf ops j) base (envL ops out E0 allL j)∧(∀ T,(out j).fT T=T)∧(∀ B q cs,q<base+ops.size→(out j).fB (upd B q cs)=upd ((out j).fB B) q cs)∧∀ B b,b<base+ops.size→(out j).fB B b=B b) ∨
    (calmAt ops j=true∧∃ S',CalmT (oldOf ops j) (envL ops out E0 allL j) (stL out S0 allL j) S'∧∀ B b,S'.B b=(stL out S0 allL j).B b→(out j).fB B b=B b):=by
  obtain⟨_,hw,ht,hf⟩:=g.step j hj
  cases hb:(out j).w with
  | false=>rw[hf hb];exact .inl ⟨fun _=>rfl,fun _=>rfl⟩
  | true =>
    have:=ht hb
    generalize out j=ot at *
    cases this with
    | op hc he=>unfold isCall at hcall;rw[hc] at hcall;cases hcall
    | call=>exact .inl ⟨fun _=>rfl,fun _=>rfl⟩
    | inv=>exact .inl ⟨fun _=>rfl,fun _=>rfl⟩
    | dyn=>exact .inl ⟨fun _=>rfl,fun _=>rfl⟩
    | loud h1 hc ha hlc=>exact .inr (.inl (wild_loud hj h1).1)
    | own h1 hc ha hlc=>exact .inr (.inr (.inl ⟨(wild_free h1).1,(wild_free h1).2.1,fun _=>rfl,hlc.loc,hlc.keep⟩))
    | calm h1 hc ha hlc k1 k2 k3=>exact .inr (.inr (.inr ⟨(wild_calm h1).1,_,(wild_calm h1).2.1,k2⟩))
theorem isLoad_mem {op:Op} (h:isLoad op=true):(memOf op).wB=false∧(memOf op).rT=false∧(memOf op).wT=false∧callOf op=none:=by
  unfold isLoad at h
  split at h
  · exact⟨rfl,rfl,rfl,rfl⟩
  · cases h
theorem cmp_symm {l:List Oper} (i j:Nat):cmp l i j=cmp l j i:=by unfold cmp;exact Bool.or_comm _ _
theorem load_old (g:Given P ops sp ol E0 S0 base out) {i j:Nat} (hi:i<ops.size) (hj:j<ops.size) (hne:j≠i) (hl:isLoad (ops[i]).op=true) (hr:rootFree ops i=true) (hn:cmp ops.toList i j=false) {R:Option Nat→Prop} (hR:¬ R none) (ho:∀ p∈oldOf ops j,R (refOf (envL ops out E0 allL j p.1.2))) :
    ∃ b,addrB (envL ops out E0 allL i) (ops[i]).op=some b∧R (some b):=by
  unfold rootFree at hr
  split at hr
  · rename_i s hs0
    have hs:=hs0
    unfold rootAt at hs
    rw[Array.getElem?_eq_getElem hi] at hs
    simp only at hs
    split at hs
    · rename_i t ht
      split at hs
      · rename_i hg
        have hm:((i,s),j)∈oldOf ops j:=by
          unfold oldOf
          refine List.mem_filterMap.2 ⟨i,List.mem_range.2 hi,?_⟩
          rw[if_neg (by rw[cmp_symm,hn];simp;omega),if_pos (by simp[hi,hl]),hs0]
          rfl
        have hb:=ho _ hm
        have hE:envL ops out E0 allL j s=E0 s:=by
          rw[envL_at]
          have:∀ (n:Nat),n≤ops.size→foldF (fun j x=>if ((ops[j]?).bind (·.dst))=some s then some (out j).s else x) allL n (E0 s)=E0 s:=by
            intro n
            induction n with
            | zero=>intro _;rfl
            | succ n ih =>
              intro hle
              simp only[foldF,if_true]
              have hd:¬ ((ops[n]?).bind (·.dst))=some s:=by
                rw[Array.getElem?_eq_getElem (by omega)]
                have:=List.all_eq_true.1 hr ops[n] (by simp)
                simpa using this
              rw[if_neg hd]
              exact ih (by omega)
          exact this j (by omega)
        simp only at hb
        rw[hE] at hb
        cases hc:refOf (E0 s) with
        | none=>rw[hc] at hb;exact absurd hb hR
        | some b =>
          rw[hc] at hb
          refine⟨b,?_,hb⟩
          simp only[addrB,ht,evalO,if_pos hg]
          exact rootOf_ok g (by omega) hs hc
      · cases hs
    · cases hs
  · cases hr
theorem new_none (g:Given P ops sp ol E0 S0 base out) {j:Nat} (hj:j<ops.size):∀ i,i≤j→(∀ q (h:q<ops.size),q<i→isCall (ops[q]).op=false)→(stL out S0 allL i).B (base+j)=none
  | 0,_,_=>g.fresh j hj
  | i+1,hle,hc=>by
    have ih:=new_none g hj i (by omega) fun q h hq=>hc q h (by omega)
    have hi:i<ops.size:=by omega
    have eB:(stL out S0 allL (i+1)).B=(out i).fB (stL out S0 allL i).B:=rfl
    rw[eB]
    clear eB
    have hci:=hc i hi (by omega)
    obtain⟨_,hw,ht,hf⟩:=g.step i hi
    cases hb:(out i).w with
    | false=>rw[hf hb];exact ih
    | true =>
      have:=ht hb
      generalize out i=ot at *
      cases this with
      | op hcl he =>
        rename_i s e
        cases e with
        | no=>exact ih
        | new cs=>exact (upd_ne _ _ (by omega)).trans ih
        | set b cs =>
          have hs:=set_has he
          exact (upd_ne _ _ (fun e=>hs (by rw[← e];exact ih))).trans ih
        | tip i k sz=>exact ih
        | mov b cs =>
          show upd (fun x=>if x=b then none else (stL out S0 allL i).B x) (base+i) cs (base+j)=none
          rw[upd_ne _ _ (show base+j≠base+i by omega)]
          show (if base+j=b then none else _)=none
          split
          · rfl
          · exact ih
      | call=>exact ih
      | inv=>exact ih
      | dyn=>exact ih
      | loud h1 hcl=>unfold isCall at hci;rw[hcl] at hci;cases hci
      | own h1 hcl=>unfold isCall at hci;rw[hcl] at hci;cases hci
      | calm h1 hcl=>unfold isCall at hci;rw[hcl] at hci;cases hci
theorem step_same (g:Given P ops sp ol E0 S0 base out) (hs:Shut ops L) {i:Nat} (hi:i<ops.size) (hLi:L i=false) (hp:∀ e∈(ops[i]).after.toList,Region.binds .any e=true→L e.on=true)
    (hfr:∀ j,j<ops.size→L j=false→∀ x,refOf (evalO (envL ops out E0 L ops.size) x)≠some (base+j)) :
    Step1 (loAt (drawLo ops) ops base i (envL ops out E0 allL i)) P ops (base+i) ops[i] (envL ops out E0 L ops.size) (stL out S0 L ops.size) (out i):=by
  obtain⟨hd,hw,ht,hf⟩:=g.step i hi
  have hargs:∀ xs:List Operand,(∀ x∈xs,x∈(ops[i]).op.operands)→argsS (envL ops out E0 L ops.size) xs=argsS (envL ops out E0 allL i) xs:=fun xs hx=>argsS_congr fun x hm=>operand_same g hs hi hLi hp (hx x hm)
  have ofLoud:∀ j (hj:j<ops.size),j≠i→touches (ops[i]).op=true∨isCall (ops[i]).op=true→(wildAt ops j=true∧isCall (ops[j]).op=true)→(cmp ops.toList i j=true∨cmp ops.toList j i=true)∨isNew (ops[i]).op=true∨(isLoad (ops[i]).op=true∧rootFree ops i=true):=fun j hj hne h1 h2=>by
    rcases wild_cmp h2.1 hi (fun h=>hne h.symm) h1.symm with h | h | h
    · exact .inl (.inr h)
    · exact .inr (.inl h)
    · exact .inr (.inr ⟨h.1,h.2.1⟩)
  have ofCall:∀ j (hj:j<ops.size),j≠i→isCall (ops[i]).op=true→(wildAt ops j=true∧isCall (ops[j]).op=true)→cmp ops.toList i j=true∨cmp ops.toList j i=true:=fun j hj hne h1 h2=>by
    have hci:callOf (ops[i]).op≠none:=fun e=>by unfold isCall at h1;rw[e] at h1;cases h1
    rcases ofLoud j hj hne (.inr h1) h2 with h | h | h
    · exact h
    · exact absurd (isNew_mem h).2.2.2 hci
    · exact absurd (isLoad_mem h.1).2.2.2 hci
  refine⟨hd,?_,fun hb=>?_,hf⟩
  · rw[← hw]
    exact wantS_congr fun gi w d h1 h2=>by simp only[evalO,slot_same g hs hi hLi hp (looksAt_guard h1 h2)]
  · have:=ht hb
    generalize hot:out i=ot at this ⊢
    cases this with
    | op hc he =>
      refine .op hc ?_
      rw[← he]
      refine evalOp_congr (fun x hx=>operand_same g hs hi hLi hp hx) (fun hr=>?_) (fun hr=>?_) rfl rfl
      · have ofW:∀ j (hj:j<ops.size),j≠i→(wildAt ops j=true∧isCall (ops[j]).op=true)→((cmp ops.toList i j=true∨cmp ops.toList j i=true)∨∀ B,(out j).fB B=B)∨(∃ b,addrB (envL ops out E0 allL i) (ops[i]).op=some b∧∀ B,(out j).fB B b=B b):=fun j hj hne h=>by
          rcases wild_form g hj h.2 with h1 | h1 | ⟨_,h2,_,_,h5⟩ | ⟨h1,S1,h2,h5⟩
          rotate_right
          · rcases ofLoud j hj hne (.inl (touch_of (.inl hr))) h with k | k | k
            · exact .inl (.inl k)
            · rw[(isNew_mem k).1] at hr;cases hr
            · cases hn:cmp ops.toList i j with
              | true=>exact .inl (.inl (.inl rfl))
              | false =>
                obtain⟨b,k1,k2⟩:=load_old g hi hj hne k.1 k.2 hn (R:=sameB (stL out S0 allL j) S1) (fun h=>h) (CalmT.of h2)
                exact .inr ⟨b,k1,fun B=>h5 B b k2⟩
          · exact .inl (.inr h1.1)
          · exact .inl (.inl (.inr (loud_cmp h1 hi (fun e=>hne e.symm) (.inr (touch_of (.inl hr))))))
          · rcases ofLoud j hj hne (.inl (touch_of (.inl hr))) h with k | k | k
            · exact .inl (.inl k)
            · rw[(isNew_mem k).1] at hr;cases hr
            · cases hn:cmp ops.toList i j with
              | true=>exact .inl (.inl (.inl rfl))
              | false =>
                obtain⟨b,k1,k2⟩:=load_old g hi hj hne k.1 k.2 hn (R:=below base) (fun h=>h) (OldT.of h2)
                have k2:b<base:=k2
                exact .inr ⟨b,k1,fun B=>h5 B b (by omega)⟩
        by_cases hdat:isLoad (ops[i]).op=true∧addrB (envL ops out E0 allL i) (ops[i]).op=none
        · exact .inr (.inr hdat)
        have ear:∀ j,EarHas ops j i→∀ b,addrB (envL ops out E0 allL i) (ops[i]).op=some b→∀ B,(out j).fB B b=B b:=fun j ⟨hlt,hn,⟨_,hl⟩,hc⟩ b hb B=>by
          have h1:=load_has he hl hb
          have h2:=new_none g hn.1 i (by omega) hc
          have hne:b≠base+j:=fun e=>h1 (by rw[e];exact h2)
          rcases new_form g hn with q | ⟨cs,q⟩
          · rw[q]
          · rw[q];exact upd_ne _ _ hne
        have lat:∀ j (hj:j<ops.size),LatHas ops i j→∀ b,addrB (envL ops out E0 allL i) (ops[i]).op=some b→(∀ B,(out j).fB B b=B b)∨L j=decide (j<i):=fun j hj ⟨hlt,⟨_,hl⟩,hm⟩ b hb=>by
          cases hLj:L j with
          | true=>exact .inr (by simp[hlt])
          | false =>
            have hne:b≠base+j:=fun e=>by
              obtain⟨x,hx,hxo⟩:∃ x,addrX (ops[i]).op=some x∧x∈(ops[i]).op.operands:=by
                unfold isLoad at hl
                split at hl
                · rename_i T x ho;rw[ho];exact⟨x,rfl,by simp[Op.operands]⟩
                · cases hl
              refine hfr j hj hLj x ?_
              rw[operand_same g hs hi hLi hp hxo, ← e, ← hb]
              unfold addrB
              rw[hx]
            rcases maker_form g hj hm with q | ⟨cs,q⟩
            · exact .inl fun B=>by rw[q]
            · exact .inl fun B=>by rw[q];exact upd_ne _ _ hne
        by_cases hsp:(∃ p∈sp,p.1.1=i∨p.2.1=i)∨(∃ p∈ol,p.1.1=i)∨∃ b,addrB (envL ops out E0 allL i) (ops[i]).op=some b
        · refine .inr ?_
          have key:∀ p∈sp,(p.1.1=i→∃ b,addrB (envL ops out E0 allL i) (ops[i]).op=some b∧∀ B,(out p.2.1).fB B b=B b)∧(p.2.1=i→∃ b,addrB (envL ops out E0 allL i) (ops[i]).op=some b∧∀ B,(out p.1.1).fB B b=B b):=fun p hm=>by
            obtain⟨s1,s2⟩:=g.ok.spOk p hm
            have ap:=SepT.of g.sep p hm
            refine⟨fun e=>?_,fun e=>?_⟩
            · have:=sep_far g s1 s2 ap
              simpa only [e,Array.getElem?_eq_getElem hi,Option.map_some,Option.get!_some] using this
            · have:=sep_far g s2 s1 (apart_symm ap)
              simpa only [e,Array.getElem?_eq_getElem hi,Option.map_some,Option.get!_some] using this
          have keyO:∀ p∈ol,p.1.1=i→∃ b,addrB (envL ops out E0 allL i) (ops[i]).op=some b∧∀ B,(out p.2).fB B b=B b:=fun p hm e=>by
            obtain⟨b,h1,_,h3⟩:=old_far g hm
            refine⟨b,?_,h3⟩
            simpa only [e,Array.getElem?_eq_getElem hi,Option.map_some,Option.get!_some] using h1
          obtain⟨b,hb1⟩:∃ b,addrB (envL ops out E0 allL i) (ops[i]).op=some b:=by
            rcases hsp with ⟨p,hm,e | e⟩ | ⟨p,hm,e⟩ | h
            · obtain⟨b,h,_⟩:=(key p hm).1 e;exact⟨b,h⟩
            · obtain⟨b,h,_⟩:=(key p hm).2 e;exact⟨b,h⟩
            · obtain⟨b,h,_⟩:=keyO p hm e;exact⟨b,h⟩
            · exact h
          refine .inl ⟨b,hb1,B_same_at3 g hs hi hLi hp fun j hj hne h=>?_⟩
          rcases h with h | h
          · rcases clash_cmp g.ok hi hj hne (clash_rB hr h).1 (clash_rB hr h).2 with h | ⟨p,hm,e1,e2⟩ | ⟨p,hm,e1,e2⟩ | ⟨p,hm,⟨e1,e2⟩ | ⟨e1,e2⟩⟩ | h | h | h | h'
            rotate_right 4
            · obtain⟨_,hn⟩:=h.2.1
              rw[(isNew_mem hn).1] at hr;cases hr
            · exact .inr (.inl (ear j h b hb1))
            · exact .inr (lat j hj h b hb1)
            · obtain⟨_,hl⟩:=h'.2.1
              rw[(isLoad_mem hl).1] at h;cases h
            · exact .inl h
            · obtain⟨c,h1,h2⟩:=(key p hm).1 e1
              rw[hb1] at h1;cases h1
              rw[← e2];exact .inr (.inl h2)
            · obtain⟨c,h1,h2⟩:=(key p hm).2 e2
              rw[hb1] at h1;cases h1
              rw[← e1];exact .inr (.inl h2)
            · obtain⟨c,h1,h2⟩:=keyO p hm e1
              rw[hb1] at h1;cases h1
              rw[← e2];exact .inr (.inl h2)
            · obtain⟨_,hn⟩:=(g.ok.olOk p hm).2
              simp only[e2] at hn
              rw[(isNew_mem hn).1] at hr;cases hr
          · rcases ofW j hj hne h with (h | h) | ⟨c,h1,h2⟩
            · exact .inl h
            · exact .inr (.inl fun B=>by rw[h])
            · rw[hb1] at h1;cases h1
              exact .inr (.inl h2)
        · exact .inl (B_same g hs hi hLi hp fun j hj hne h=>by
            rcases h with h | h
            · rcases clash_cmp g.ok hi hj hne (clash_rB hr h).1 (clash_rB hr h).2 with h | ⟨p,hm,e1,e2⟩ | ⟨p,hm,e1,e2⟩ | ⟨p,hm,⟨e1,e2⟩ | ⟨e1,e2⟩⟩ | h | h | h | h'
              rotate_right 4
              · obtain⟨_,hn⟩:=h.2.1
                rw[(isNew_mem hn).1] at hr;cases hr
              rotate_left
              · refine absurd ⟨h.2.1.2,?_⟩ hdat
                cases hq:addrB (envL ops out E0 allL i) (ops[i]).op with
                | none=>rfl
                | some b=>exact absurd (.inr (.inr ⟨b,hq⟩)) hsp
              · obtain⟨_,hl⟩:=h'.2.1
                rw[(isLoad_mem hl).1] at h;cases h
              rotate_right
              · refine absurd ⟨h.2.2.1.2,?_⟩ hdat
                cases hq:addrB (envL ops out E0 allL i) (ops[i]).op with
                | none=>rfl
                | some b=>exact absurd (.inr (.inr ⟨b,hq⟩)) hsp
              · exact .inl h
              · exact absurd (.inl ⟨p,hm, .inl e1⟩) hsp
              · exact absurd (.inl ⟨p,hm, .inr e2⟩) hsp
              · exact absurd (.inr (.inl ⟨p,hm,e1⟩)) hsp
              · obtain⟨_,hn⟩:=(g.ok.olOk p hm).2
                simp only[e2] at hn
                rw[(isNew_mem hn).1] at hr;cases hr
            · rcases ofW j hj hne h with h | ⟨c,h1,h2⟩
              · exact h
              · exact absurd (.inr (.inr ⟨c,h1⟩)) hsp)
      · exact T_same g hs hi hLi hp fun j hj hne h=>by
          rcases h with h | h
          · rcases clash_cmp g.ok hi hj hne (clash_rT hr h).1 (clash_rT hr h).2 with h1 | ⟨p,hm,e1,e2⟩ | ⟨p,hm,e1,e2⟩ | ⟨p,hm,⟨e1,e2⟩ | ⟨e1,e2⟩⟩ | h1 | h1 | h1 | h1
            rotate_right 4
            · obtain⟨_,hn⟩:=h1.2.1
              rw[(isNew_mem hn).2.1] at hr;cases hr
            · rw[(isLoad_mem h1.2.2.1.2).2.1] at hr;cases hr
            · rw[(isLoad_mem h1.2.1.2).2.1] at hr;cases hr
            · rw[(isLoad_mem h1.2.1.2).2.2.1] at h;cases h
            · exact .inl h1
            · obtain⟨k,t,ha,_⟩:=(g.ok.spOk p hm).1
              simp only[e1] at ha
              rw[(addr_mem ha).2.1] at hr;cases hr
            · obtain⟨k,t,ha,_⟩:=(g.ok.spOk p hm).2
              simp only[e2] at ha
              rw[(addr_mem ha).2.1] at hr;cases hr
            · obtain⟨k,t,ha,_⟩:=(g.ok.olOk p hm).1
              simp only[e1] at ha
              rw[(addr_mem ha).2.1] at hr;cases hr
            · obtain⟨_,hn⟩:=(g.ok.olOk p hm).2
              simp only[e2] at hn
              rw[(isNew_mem hn).2.1] at hr;cases hr
          · rcases ofLoud j hj hne (.inl (touch_of (.inr (.inr (.inl hr))))) h with k | k | k
            · exact .inl k
            · rw[(isNew_mem k).2.1] at hr;cases hr
            · rw[(isLoad_mem k.1).2.1] at hr;cases hr
    | call hc ha hd' h =>
      obtain⟨ts,ho⟩:=callOf_fn hc
      refine .call hc ?_ hd' h
      rw[← ha]
      exact hargs _ fun x hx=>by rw[ho];simp only[Op.operands,Call.operands];exact Array.mem_append_right _ (by simpa using hx)
    | inv hc hx ha hm hd' h =>
      obtain⟨ts,ho⟩:=callOf_inv hc
      refine .inv hc ?_ ?_ hm hd' h
      · rw[← hx];exact operand_same g hs hi hLi hp (by rw[ho];simp[Op.operands,Call.operands])
      · rw[← ha]
        exact hargs _ fun x hx=>by rw[ho];simp only[Op.operands,Call.operands];exact Array.mem_append_right _ (by simpa using hx)
    | dyn hc hx hf ha hd' h =>
      obtain⟨ts,ho⟩:=callOf_dyn hc
      refine .dyn hc ?_ hf ?_ hd' h
      · rw[← hx];exact operand_same g hs hi hLi hp (by rw[ho];simp[Op.operands,Call.operands])
      · rw[← ha]
        exact hargs _ fun x hx=>by rw[ho];simp only[Op.operands,Call.operands];exact Array.mem_append_right _ (by simpa using hx)
    | loud hl hc ha h =>
      obtain⟨ts,ho⟩:=callOf_fn hc
      have hcall:isCall (ops[i]).op=true:=by unfold isCall;rw[hc];rfl
      have hl':=(wild_loud hi hl).1
      have eS:stL out S0 L ops.size=stL out S0 allL i:=by
        have e1:=B_same g hs hi hLi hp fun j hj hne h=>.inl (by
          rcases h with h | h
          · exact .inl (loud_cmp hl' hj hne (.inr (touch_of (.inr (.inl h)))))
          · exact ofCall j hj hne hcall h)
        have e2:=T_same g hs hi hLi hp fun j hj hne h=>.inl (by
          rcases h with h | h
          · exact .inl (loud_cmp hl' hj hne (.inr (touch_of (.inr (.inr (.inr h))))))
          · exact ofCall j hj hne hcall h)
        have e3:=x_same g hs hi hLi hp fun j hj hne h=>.inl (ofCall j hj hne hcall h)
        unfold stL at e1 e2 e3 ⊢
        simp only at e1 e2 e3
        rw[e1,e2,e3]
      rw[eS]
      refine .loud hl hc ?_ h
      rw[← ha]
      exact hargs _ fun x hx=>by rw[ho];simp only[Op.operands,Call.operands];exact Array.mem_append_right _ (by simpa using hx)
    | calm hl hc ha h k1 k2 k3 =>
      obtain⟨ts,ho⟩:=callOf_fn hc
      have hcall:isCall (ops[i]).op=true:=by unfold isCall;rw[hc];rfl
      obtain⟨hl1,hl2,hl3⟩:=wild_calm hl
      have byCalm:∀ j (hj:j<ops.size),j≠i→touches (ops[j]).op=true→cmp ops.toList i j=true∨isLoad (ops[j]).op=true:=fun j hj hne ht'=>by
        rcases wild_cmp hl3 hj hne (.inr ht') with k | k | k
        · exact .inl k
        · unfold calmAt at hl1
          rw[Bool.and_eq_true] at hl1
          have:=List.all_eq_true.1 hl1.2 j (List.mem_range.2 hj)
          simp only[Bool.or_eq_true,beq_iff_eq,Array.getElem?_eq_getElem hj,Option.map_some,Option.getD_some,k,Bool.not_true,Bool.false_eq_true,or_false] at this
          rcases this with e | e
          · exact absurd e hne
          · exact .inl e
        · exact .inr k.1
      have eS:stL out S0 L ops.size=stL out S0 allL i:=by
        have e1:=B_same g hs hi hLi hp fun j hj hne h=>.inl (by
          rcases h with h | h
          · rcases byCalm j hj hne (touch_of (.inr (.inl h))) with k | k
            · exact .inl k
            · rw[(isLoad_mem k).1] at h;cases h
          · exact ofCall j hj hne hcall h)
        have e2:=T_same g hs hi hLi hp fun j hj hne h=>.inl (by
          rcases h with h | h
          · rcases byCalm j hj hne (touch_of (.inr (.inr (.inr h)))) with k | k
            · exact .inl k
            · rw[(isLoad_mem k).2.2.1] at h;cases h
          · exact ofCall j hj hne hcall h)
        have e3:=x_same g hs hi hLi hp fun j hj hne h=>.inl (ofCall j hj hne hcall h)
        unfold stL at e1 e2 e3 ⊢
        simp only at e1 e2 e3
        rw[e1,e2,e3]
      rw[eS]
      refine .calm hl hc ?_ h k1 k2 k3
      rw[← ha]
      exact hargs _ fun x hx=>by rw[ho];simp only[Op.operands,Call.operands];exact Array.mem_append_right _ (by simpa using hx)
    | own hl hc ha h =>
      obtain⟨ts,ho⟩:=callOf_fn hc
      have hcall:isCall (ops[i]).op=true:=by unfold isCall;rw[hc];rfl
      obtain⟨hl1,hl2,hl3⟩:=wild_free hl
      have byFree:∀ j (hj:j<ops.size),j≠i→touches (ops[j]).op=true→cmp ops.toList i j=true∨isNew (ops[j]).op=true∨isLoad (ops[j]).op=true:=fun j hj hne ht'=>by
        rcases wild_cmp hl3 hj hne (.inr ht') with k | k | k
        · exact .inl k
        · exact .inr (.inl k)
        · exact .inr (.inr k.1)
      have e2:=T_same g hs hi hLi hp fun j hj hne h=>.inl (by
        rcases h with h | h
        · rcases byFree j hj hne (touch_of (.inr (.inr (.inr h)))) with k | k | k
          · exact .inl k
          · rw[(isNew_mem k).2.2.1] at h;cases h
          · rw[(isLoad_mem k).2.2.1] at h;cases h
        · exact ofCall j hj hne hcall h)
      have e3:=x_same g hs hi hLi hp fun j hj hne h=>.inl (ofCall j hj hne hcall h)
      have e1:∀ b,b<base→(stL out S0 L ops.size).B b=(stL out S0 allL i).B b:=fun b hlt=>B_same_at g hs hi hLi hp fun j hj hne h=>by
        rcases h with h | h
        · rcases byFree j hj hne (touch_of (.inr (.inl h))) with k | k | k
          · exact .inl (.inl k)
          · rcases new_form g ⟨hj,k⟩ with q | ⟨cs,q⟩
            · exact .inr fun B=>by rw[q]
            · exact .inr fun B=>by rw[q];exact upd_ne _ _ (by omega)
          · rw[(isLoad_mem k).1] at h;cases h
        · exact .inl (ofCall j hj hne hcall h)
      refine .own hl hc ?_ ⟨fun S1 k1 k2 k3 k4 k5 k6=>h.call S1 (by rw[k1];rfl) (by rw[k2,e3]) (by rw[k3];rfl) (by rw[k4];rfl) (by rw[k5,e2]) (fun b hb=>by rw[k6 b hb];exact e1 b hb),h.loc,h.keep,h.pw⟩
      rw[← ha]
      exact hargs _ fun x hx=>by rw[ho];simp only[Op.operands,Call.operands];exact Array.mem_append_right _ (by simpa using hx)
end
end
end Go.Sh
namespace Go.Sh
open Go.RowKit (Below)
section
variable {P:Program}{sp:Spl}{ol:Old}{ops:Array Oper}{E0:Env}{S0:St}{base:Nat}{out:Nat→Out}{L:Nat→Bool}
theorem B_form (g:Given P ops sp ol E0 S0 base out) {j:Nat} (hj:j<ops.size) (hl:¬ (wildAt ops j=true∧isCall (ops[j]).op=true)):(∀ B,(out j).fB B=B) ∨
    ((memOf (ops[j]).op).wB=true∧((∃ cs,∀ B,(out j).fB B=upd B (base+j) cs)∨(memOf (ops[j]).op).own=false)):=by
  obtain⟨_,hw,ht,hf⟩:=g.step j hj
  cases hb:(out j).w with
  | false=>rw[hf hb];exact .inl fun _=>rfl
  | true =>
    have:=ht hb
    generalize out j=ot at *
    cases this with
    | op hc he =>
      rename_i s e
      have k:=evalOp_eff he
      cases e with
      | no=>exact .inl fun _=>rfl
      | new cs=>exact .inr ⟨k.new cs rfl, .inl ⟨cs,fun _=>rfl⟩⟩
      | set b cs=>exact .inr ⟨(k.set b cs rfl).1, .inr (k.set b cs rfl).2⟩
      | tip i k sz=>exact .inl fun _=>rfl
      | mov b cs=>exact .inr ⟨(k.mov b cs rfl).1, .inr (k.mov b cs rfl).2⟩
    | call=>exact .inl fun _=>rfl
    | inv=>exact .inl fun _=>rfl
    | dyn=>exact .inl fun _=>rfl
    | loud h1 hc ha hlc=>exact absurd ⟨(wild_loud hj h1).2,by unfold isCall;rw[hc];rfl⟩ hl
    | own h1 hc ha hlc=>exact absurd ⟨(wild_free h1).2.2,by unfold isCall;rw[hc];rfl⟩ hl
    | calm h1 hc=>exact absurd ⟨(wild_calm h1).2.2,by unfold isCall;rw[hc];rfl⟩ hl
theorem T_form (g:Given P ops sp ol E0 S0 base out) {j:Nat} (hj:j<ops.size) (hl:¬ (wildAt ops j=true∧isCall (ops[j]).op=true)):(∀ T,(out j).fT T=T) ∨
    ((memOf (ops[j]).op).wT=true∧((∃ p,∀ T,(out j).fT T=upd T (base+j) p)∨(memOf (ops[j]).op).own=false)):=by
  obtain⟨_,hw,ht,hf⟩:=g.step j hj
  cases hb:(out j).w with
  | false=>rw[hf hb];exact .inl fun _=>rfl
  | true =>
    have:=ht hb
    generalize out j=ot at *
    cases this with
    | op hc he =>
      rename_i s e
      have k:=evalOp_eff he
      cases e with
      | no=>exact .inl fun _=>rfl
      | new cs=>exact .inl fun _=>rfl
      | set b cs=>exact .inl fun _=>rfl
      | mov b cs=>exact .inl fun _=>rfl
      | tip i k' sz =>
        obtain⟨h1,h2⟩:=k.tip i k' sz rfl
        refine .inr ⟨h1,?_⟩
        cases ho:(memOf (ops[j]).op).own with
        | true =>
          have:=h2 ho
          subst this
          exact .inl ⟨(k',sz),fun _=>rfl⟩
        | false=>exact .inr rfl
    | call=>exact .inl fun _=>rfl
    | inv=>exact .inl fun _=>rfl
    | dyn=>exact .inl fun _=>rfl
    | loud h1 hc ha hlc=>exact absurd ⟨(wild_loud hj h1).2,by unfold isCall;rw[hc];rfl⟩ hl
    | own h1 hc ha hlc=>exact absurd ⟨(wild_free h1).2.2,by unfold isCall;rw[hc];rfl⟩ hl
    | calm h1 hc=>exact absurd ⟨(wild_calm h1).2.2,by unfold isCall;rw[hc];rfl⟩ hl
theorem upd_comm {α:Type} (f:Nat→Option α) {i j:Nat} (x y:α) (h:i≠j):upd (upd f i x) j y=upd (upd f j y) i x:=by
  funext k
  unfold upd
  by_cases a:k=j
  · subst a
    rw[if_pos rfl,if_neg (fun e=>h e.symm),if_pos rfl]
  · rw[if_neg a]
    by_cases b:k=i
    · rw[if_pos b,if_pos b]
    · rw[if_neg b,if_neg b,if_neg a]
theorem clash_w {a b:Mem} (h:clash a b=false):(a.wB=true→b.wB=true→a.own=true∧b.own=true)∧(a.wT=true→b.wT=true→a.own=true∧b.own=true):=by
  unfold clash at h
  simp only[Bool.or_eq_false_iff,Bool.and_eq_false_iff,Bool.not_eq_false'] at h
  obtain⟨⟨_,h1⟩,h2⟩:=h
  refine⟨fun x y=>?_,fun x y=>?_⟩
  · simp only[x,y,Bool.true_eq_false,Bool.and_eq_true,false_or] at h1;exact h1
  · simp only[x,y,Bool.true_eq_false,Bool.and_eq_true,false_or] at h2;exact h2
theorem quiet_pair (g:Given P ops sp ol E0 S0 base out) {i j:Nat} (hi:i<ops.size) (hj:j<ops.size) (hlt:i<j) (h1:cmp ops.toList j i=false) (h2:cmp ops.toList i j=false) :
    (wildAt ops i=true∧isCall (ops[i]).op=true→(touches (ops[j]).op=false∨isNew (ops[j]).op=true∨isLoad (ops[j]).op=true)∧¬ (wildAt ops j=true∧isCall (ops[j]).op=true)) ∧
    (wildAt ops j=true∧isCall (ops[j]).op=true→(touches (ops[i]).op=false∨isNew (ops[i]).op=true∨isLoad (ops[i]).op=true)∧¬ (wildAt ops i=true∧isCall (ops[i]).op=true))∧(clash (memOf (ops[j]).op) (memOf (ops[i]).op)=false∨SpHas sp j i∨OlHas ol j i∨EarHas ops j i∨LatHas ops j i):=by
  have side:∀ i j (hi:i<ops.size) (hj:j<ops.size),j≠i→cmp ops.toList i j=false→wildAt ops i=true∧isCall (ops[i]).op=true→(touches (ops[j]).op=false∨isNew (ops[j]).op=true∨isLoad (ops[j]).op=true)∧¬ (wildAt ops j=true∧isCall (ops[j]).op=true):=fun i j hi hj hne hn h=>by
    refine⟨?_,fun k=>?_⟩
    · cases hb:touches (ops[j]).op with
      | false=>exact .inl rfl
      | true =>
        rcases wild_cmp h.1 hj hne (.inr hb) with q | q | q
        · rw[q] at hn;cases hn
        · exact .inr (.inl q)
        · exact .inr (.inr q.1)
    · have hcj:callOf (ops[j]).op≠none:=fun e=>by have:=k.2;unfold isCall at this;rw[e] at this;cases this
      rcases wild_cmp h.1 hj hne (.inl k.2) with q | q | q
      · rw[q] at hn;cases hn
      · exact hcj (isNew_mem q).2.2.2
      · exact hcj (isLoad_mem q.1).2.2.2
  refine⟨side i j hi hj (by omega) h2,side j i hj hi (by omega) h1,?_⟩
  rcases g.ok.pair j i hj hi hlt with hc | ⟨_,_,h⟩
  · rw[hc] at h1;cases h1
  · exact h
theorem not_touch {op:Op} (h:touches op=false):(memOf op).wB=false∧(memOf op).wT=false:=by
  unfold touches at h
  simp only[Bool.or_eq_false_iff] at h
  exact⟨h.1.1.2,h.2⟩
theorem B_comm (g:Given P ops sp ol E0 S0 base out) (hs:Shut ops L) {i j:Nat} (hi:i<ops.size) (hj:j<ops.size) (hLi:L i=false) (hLj:L j=true) (hlt:i<j) (B:Nat→Option (List SV)):(out j).fB ((out i).fB B)=(out i).fB ((out j).fB B):=by
  obtain⟨h1,h2⟩:=not_cmp g.ok hs hi hj hLi hLj hlt
  obtain⟨q1,q2,q3⟩:=quiet_pair g hi hj hlt h1 h2
  have beside:∀ i j (hi:i<ops.size) (hj:j<ops.size),j≠i→cmp ops.toList i j=false→isCall (ops[i]).op=true→(touches (ops[j]).op=false∨isNew (ops[j]).op=true∨isLoad (ops[j]).op=true)→¬ (wildAt ops j=true∧isCall (ops[j]).op=true)→∀ B,(out j).fB ((out i).fB B)=(out i).fB ((out j).fB B):=fun i j hi hj hne hn hc t1 t2 B=>by
    rcases t1 with t1 | t1 | t1
    · rcases B_form g hj t2 with h | ⟨h,_⟩
      · rw[h,h]
      · rw[(not_touch t1).1] at h;cases h
    · rcases new_form g ⟨hj,t1⟩ with h | ⟨cs,h⟩
      · rw[h,h]
      · rcases wild_form g hi hc with k | k | k | k
        · rw[k.1,k.1]
        · cases hb:touches (ops[j]).op with
          | true=>rw[loud_cmp k hj hne (.inr hb)] at hn;cases hn
          | false =>
            have:=(B_form g hj t2)
            rcases this with h' | ⟨h',_⟩
            · rw[h',h']
            · rw[(not_touch hb).1] at h';cases h'
        · rw[h,h,k.2.2.2.1 _ _ _ (by omega)]
        · have k1:=k.1
          unfold calmAt at k1
          rw[Bool.and_eq_true] at k1
          have:=List.all_eq_true.1 k1.2 j (List.mem_range.2 hj)
          simp only[Bool.or_eq_true,beq_iff_eq,Array.getElem?_eq_getElem hj,Option.map_some,Option.getD_some,t1,Bool.not_true,Bool.false_eq_true,or_false,hn] at this
          exact absurd this hne
    · rcases B_form g hj t2 with h | ⟨h,_⟩
      · rw[h,h]
      · rw[(isLoad_mem t1).1] at h;cases h
  by_cases li:wildAt ops i=true∧isCall (ops[i]).op=true
  · obtain⟨t1,t2⟩:=q1 li
    exact beside i j hi hj (by omega) h2 li.2 t1 t2 B
  by_cases lj:wildAt ops j=true∧isCall (ops[j]).op=true
  · obtain⟨t1,t2⟩:=q2 lj
    exact (beside j i hj hi (by omega) h1 lj.2 t1 t2 B).symm
  rcases q3 with q3 | ⟨p,hm,rfl,rfl⟩ | ⟨p,hm,hpp⟩ | ⟨_,_,⟨_,hl⟩,_⟩ | ⟨_,⟨_,hl⟩,_⟩
  case inr.inr.inr.inr =>
    have key:∀ B,(out j).fB B=B:=fB_id g hj (isLoad_mem hl).1 (fun _=>by unfold isCall;rw[(isLoad_mem hl).2.2.2];rfl)
    rw[key,key]
  case inr.inr.inr.inl =>
    have key:∀ B,(out i).fB B=B:=fB_id g hi (isLoad_mem hl).1 (fun _=>by unfold isCall;rw[(isLoad_mem hl).2.2.2];rfl)
    rw[key,key]
  case inr.inr.inl =>
    obtain⟨s1,s2⟩:=g.ok.olOk p hm
    have hbl:=OldT.of g.old p hm
    cases hb:refOf (E0 p.1.2) with
    | none=>rw[hb] at hbl;exact hbl.elim
    | some b =>
      rw[hb] at hbl
      have hbl:b<base:=hbl
      have key:∀ B,(out p.1.1).fB ((out p.2).fB B)=(out p.2).fB ((out p.1.1).fB B):=fun B=>by
        rcases at_form g s1 hb with h | ⟨cs,h⟩
        · rw[h,h]
        · rcases new_form g s2 with k | ⟨ds,k⟩
          · rw[k,k]
          · rw[h,k,k,h];exact upd_comm _ _ _ (by omega)
      rcases hpp with ⟨e1,e2⟩ | ⟨e1,e2⟩
      · rw[← e1, ← e2];exact key B
      · rw[← e1, ← e2];exact (key B).symm
  case inr.inl =>
    obtain⟨s1,s2⟩:=g.ok.spOk p hm
    have ap:=SepT.of g.sep p hm
    cases hb:refOf (E0 p.1.2) with
    | none=>rw[hb] at ap;exact ap.elim
    | some b =>
      cases hc:refOf (E0 p.2.2) with
      | none=>rw[hb,hc] at ap;exact ap.elim
      | some c =>
        rw[hb,hc] at ap
        rcases at_form g s1 hb with h | ⟨cs,h⟩
        · rw[h,h]
        · rcases at_form g s2 hc with k | ⟨ds,k⟩
          · rw[k,k]
          · rw[h,k,k,h];exact upd_comm _ _ _ (fun e=>ap e.symm)
  rcases B_form g hi li with h | ⟨hw,h⟩
  · rw[h,h]
  rcases B_form g hj lj with k | ⟨kw,k⟩
  · rw[k,k]
  obtain⟨oj,oi⟩:=(clash_w q3).1 kw hw
  rcases h with ⟨cs,h⟩ | h
  · rcases k with ⟨ds,k⟩ | k
    · rw[h,k,k,h];exact upd_comm _ _ _ (by omega)
    · rw[k] at oj;cases oj
  · rw[h] at oi;cases oi
theorem T_comm (g:Given P ops sp ol E0 S0 base out) (hs:Shut ops L) {i j:Nat} (hi:i<ops.size) (hj:j<ops.size) (hLi:L i=false) (hLj:L j=true) (hlt:i<j) (T:Nat→Option (Nat×Nat)):(out j).fT ((out i).fT T)=(out i).fT ((out j).fT T):=by
  obtain⟨h1,h2⟩:=not_cmp g.ok hs hi hj hLi hLj hlt
  obtain⟨q1,q2,q3⟩:=quiet_pair g hi hj hlt h1 h2
  have still:∀ j (hj:j<ops.size),(touches (ops[j]).op=false∨isNew (ops[j]).op=true∨isLoad (ops[j]).op=true)→¬ (wildAt ops j=true∧isCall (ops[j]).op=true)→∀ T,(out j).fT T=T:=fun j hj t1 t2=>by
    rcases T_form g hj t2 with h | ⟨h,_⟩
    · exact h
    · rcases t1 with t1 | t1 | t1
      · rw[(not_touch t1).2] at h;cases h
      · rw[(isNew_mem t1).2.2.1] at h;cases h
      · rw[(isLoad_mem t1).2.2.1] at h;cases h
  by_cases li:wildAt ops i=true∧isCall (ops[i]).op=true
  · obtain⟨t1,t2⟩:=q1 li
    have h:=still j hj t1 t2
    rw[h,h]
  by_cases lj:wildAt ops j=true∧isCall (ops[j]).op=true
  · obtain⟨t1,t2⟩:=q2 lj
    have h:=still i hi t1 t2
    rw[h,h]
  rcases q3 with q3 | ⟨p,hm,rfl,rfl⟩ | ⟨p,hm,hpp⟩ | ⟨_,_,⟨_,hl⟩,_⟩ | ⟨_,⟨_,hl⟩,_⟩
  case inr.inr.inr.inr =>
    have key:∀ T,(out j).fT T=T:=fT_id g hj (isLoad_mem hl).2.2.1 (fun _=>by unfold isCall;rw[(isLoad_mem hl).2.2.2];rfl)
    rw[key,key]
  case inr.inr.inr.inl =>
    have key:∀ T,(out i).fT T=T:=fT_id g hi (isLoad_mem hl).2.2.1 (fun _=>by unfold isCall;rw[(isLoad_mem hl).2.2.2];rfl)
    rw[key,key]
  case inr.inr.inl =>
    obtain⟨hlt1,t,ha,_⟩:=(g.ok.olOk p hm).1
    have key:∀ T,(out p.1.1).fT T=T:=fT_id g hlt1 (addr_mem ha).1 (fun _=>(addr_mem ha).2.2)
    rcases hpp with ⟨e1,e2⟩ | ⟨e1,e2⟩
    · rw[← e1,key,key]
    · rw[← e1,key,key]
  case inr.inl =>
    obtain⟨k,t,ha,_⟩:=(g.ok.spOk p hm).1
    have:=fT_id g hj (addr_mem ha).1 (fun _=>(addr_mem ha).2.2)
    rw[this,this]
  rcases T_form g hi li with h | ⟨hw,h⟩
  · rw[h,h]
  rcases T_form g hj lj with k | ⟨kw,k⟩
  · rw[k,k]
  obtain⟨oj,oi⟩:=(clash_w q3).2 kw hw
  rcases h with ⟨cs,h⟩ | h
  · rcases k with ⟨ds,k⟩ | k
    · rw[h,k,k,h];exact upd_comm _ _ _ (by omega)
    · rw[k] at oj;cases oj
  · rw[h] at oi;cases oi
theorem x_comm (g:Given P ops sp ol E0 S0 base out) (hs:Shut ops L) {i j:Nat} (hi:i<ops.size) (hj:j<ops.size) (hLi:L i=false) (hLj:L j=true) (hlt:i<j) (x:Nat):(out j).fx ((out i).fx x)=(out i).fx ((out j).fx x):=by
  obtain⟨h1,h2⟩:=not_cmp g.ok hs hi hj hLi hLj hlt
  obtain⟨q1,q2,q3⟩:=quiet_pair g hi hj hlt h1 h2
  by_cases li:wildAt ops i=true∧isCall (ops[i]).op=true
  · have:=fx_id g hj (fun h=>by
      cases hb:isCall (ops[j]).op with
      | false=>rfl
      | true=>exact absurd ⟨h,hb⟩ (q1 li).2)
    rw[this,this]
  · have:=fx_id g hi (fun h=>by
      cases hb:isCall (ops[i]).op with
      | false=>rfl
      | true=>exact absurd ⟨h,hb⟩ li)
    rw[this,this]
theorem E_comm (g:Given P ops sp ol E0 S0 base out) {i j:Nat} (hi:i<ops.size) (hj:j<ops.size) (hlt:i<j) (E:Env):stE ops out j (stE ops out i E)=stE ops out i (stE ops out j E):=by
  funext k
  rw[stE_at,stE_at,stE_at,stE_at]
  by_cases a:(ops[j]?).bind (·.dst)=some k
  · by_cases b:(ops[i]?).bind (·.dst)=some k
    · rw[Array.getElem?_eq_getElem hj] at a
      rw[Array.getElem?_eq_getElem hi] at b
      exact absurd (by simpa using b) (g.ok.dst j i hj hi hlt k (by simpa using a))
    · rw[if_pos a,if_neg b,if_pos a]
  · rw[if_neg a]
    by_cases b:(ops[i]?).bind (·.dst)=some k
    · rw[if_pos b,if_pos b]
    · rw[if_neg b,if_neg b,if_neg a]
abbrev withL (L:Nat→Bool) (i:Nat):Nat→Bool:=fun j=>L j || j == i
theorem envL_insert (g:Given P ops sp ol E0 S0 base out) {i:Nat} (hi:i<ops.size) (hLi:L i=false):envL ops out E0 (withL L i) ops.size=(envL ops out E0 L ops.size).put (ops[i]).dst (out i).s:=by
  unfold envL
  rw[foldF_insert hi hLi (fun j h1 h2 _ y=>E_comm g hi h2 h1 y)]
  unfold stE
  rw[Array.getElem?_eq_getElem hi]
theorem stL_insert (g:Given P ops sp ol E0 S0 base out) (hs:Shut ops L) {i:Nat} (hi:i<ops.size) (hLi:L i=false):stL out S0 (withL L i) ops.size=(stL out S0 L ops.size).out (out i):=by
  unfold stL St.out
  simp only
  rw[foldF_insert hi hLi (fun j h1 h2 h3 y=>B_comm g hs hi h2 hLi h3 h1 y),foldF_insert hi hLi (fun j h1 h2 h3 y=>T_comm g hs hi h2 hLi h3 h1 y),foldF_insert hi hLi (fun j h1 h2 h3 y=>x_comm g hs hi h2 hLi h3 h1 y)]
def cntL (L:Nat→Bool) (n:Nat):Nat:=foldF (fun _ x=>x+1) L n 0
theorem cntL_le (L:Nat→Bool):∀ n,cntL L n≤n
  | 0=>Nat.le_refl _
  | n+1=>by
    have:=cntL_le L n
    unfold cntL at *
    simp only[foldF]
    split<;>omega
theorem cntL_all:∀ n,n≤cntL L n→∀ j,j<n→L j=true
  | 0,_,j,hj=>by omega
  | n+1,h,j,hj=>by
    have h1:=cntL_le L n
    unfold cntL at *
    simp only[foldF] at h
    split at h
    · rename_i hn
      by_cases e:j=n
      · subst e;exact hn
      · exact cntL_all n (by unfold cntL;omega) j (by omega)
    · omega
theorem any_ok (g:Given P ops sp ol E0 S0 base out) {m0:Nat→Nat}{w0:World}{G:Gh}{w1:World}{H:Nat→Prop} (hH:∀ b,H b→b<base) {QQ:Exit→Act→World→Prop}
    (hQ:∀ G' a' w',Rel m0 w0 G' (envL ops out E0 allL ops.size) (stL out S0 allL ops.size) (fun b=>(stL out S0 allL ops.size).nx≤b∨H b) a' w'→S0.nx≤(stL out S0 allL ops.size).nx→Fut G w1 G' w'→QQ .normal a' w') :
    ∀ (fuel:Nat) (listed:Array Bool) (a:Act) (w:World) (G':Gh),listed.size=ops.size→ops.size≤fuel+cntL (fun i=>listed.getD i false) ops.size→Shut ops (fun i=>listed.getD i false) →
      S0.nx≤(stL out S0 (fun i=>listed.getD i false) ops.size).nx→base+ops.size≤(stL out S0 (fun i=>listed.getD i false) ops.size).nx →
      Rel m0 w0 G' (envL ops out E0 (fun i=>listed.getD i false) ops.size) (stL out S0 (fun i=>listed.getD i false) ops.size) (fun b=>(base≤b∧b<base+ops.size∧listed.getD (b - base) false=false)∨(stL out S0 (fun i=>listed.getD i false) ops.size).nx≤b∨H b) a w →
      Fut G w1 G' w→wpAnyIn Fence.wide 0 P .any ops QQ fuel listed a w:=by
  have done:∀ (listed:Array Bool) (a:Act) (w:World) (G':Gh),(∀ j,j<ops.size→listed.getD j false=true)→S0.nx≤(stL out S0 (fun i=>listed.getD i false) ops.size).nx →
      Rel m0 w0 G' (envL ops out E0 (fun i=>listed.getD i false) ops.size) (stL out S0 (fun i=>listed.getD i false) ops.size) (fun b=>(base≤b∧b<base+ops.size∧listed.getD (b - base) false=false)∨(stL out S0 (fun i=>listed.getD i false) ops.size).nx≤b∨H b) a w →
      Fut G w1 G' w→QQ .normal a w:=by
    intro listed a w G' hall hnx hr f
    have eE:envL ops out E0 (fun i=>listed.getD i false) ops.size=envL ops out E0 allL ops.size:=foldF_congr fun j hj=>.inr (hall j hj)
    have eS:stL out S0 (fun i=>listed.getD i false) ops.size=stL out S0 allL ops.size:=by
      unfold stL
      rw[foldF_congr (f:=fun j=>(out j).fB) (M:=allL) fun j hj=>.inr (hall j hj),foldF_congr (f:=fun j=>(out j).fT) (M:=allL) fun j hj=>.inr (hall j hj),foldF_congr (f:=fun j=>(out j).fx) (M:=allL) fun j hj=>.inr (hall j hj)]
    rw[eE,eS] at hr
    rw[eS] at hnx
    exact hQ G' a w (hr.less fun b hb=>.inr hb) hnx f
  have noReady:∀ (listed:Array Bool),listed.size=ops.size→Region.ready .any ops listed=[]→∀ j,j<ops.size→listed.getD j false=true:=by
    intro listed hsz h0 j
    induction j using Nat.strongRecOn with
    | _ j ih =>
      intro hj
      cases hb:listed.getD j false with
      | true=>rfl
      | false =>
        have:j∈Region.ready .any ops listed:=mem_ready.2 ⟨by
          simp only[Array.getD_eq_getD_getElem?] at hb ⊢
          rw[Array.getElem?_eq_getElem (by omega)] at hb ⊢
          simpa using hb,ops[j],Array.getElem?_eq_getElem hj,fun e he hbind=>by
          have hlt:=g.ok.back j hj e (by simpa using he) hbind
          exact ih e.on hlt (by omega)⟩
        rw[h0] at this;cases this
  intro fuel
  induction fuel with
  | zero =>
    intro listed a w G' hsz hcnt hs hnx hnx2 hr f
    have hall:=cntL_all ops.size (by omega:ops.size≤cntL (fun i=>listed.getD i false) ops.size)
    refine⟨?_,done listed a w G' hall hnx hr f⟩
    rw[List.eq_nil_iff_forall_not_mem]
    intro j hj
    obtain⟨h1,o,ho,_⟩:=mem_ready.1 hj
    have hjl:=(Array.getElem?_eq_some_iff.1 ho).1
    have h2:=hall j hjl
    simp only[Array.getD_eq_getD_getElem?] at h1 h2
    rw[Array.getElem?_eq_getElem (by omega)] at h1 h2
    simp at h1 h2
    rw[h1] at h2;cases h2
  | succ fuel ih =>
    intro listed a w G' hsz hcnt hs hnx hnx2 hr f
    refine⟨fun h0=>done listed a w G' (noReady listed hsz h0) hnx hr f,fun i hi=>?_⟩
    obtain⟨h1,o,ho,hpre⟩:=mem_ready.1 hi
    obtain⟨hlt,hoi⟩:=Array.getElem?_eq_some_iff.1 ho
    subst hoi
    generalize hLdef:(fun i=>listed.getD i false)=L at *
    have hLi:L i=false:=by
      rw[← hLdef]
      simp only[Array.getD_eq_getD_getElem?] at h1 ⊢
      rw[Array.getElem?_eq_getElem (by omega)] at h1 ⊢
      simpa using h1
    have hp:∀ e∈(ops[i]).after.toList,Region.binds .any e=true→L e.on=true:=fun e he hb=>by
      rw[← hLdef];exact hpre e (by simpa using he) hb
    have hL':(fun j=>(listed.setIfInBounds i true).getD j false)=withL L i:=by
      funext j
      rw[← hLdef]
      simp only[withL,Array.getD_eq_getD_getElem?,Array.getElem?_setIfInBounds]
      by_cases e:i=j
      · subst e;simp[hsz,hlt]
      · rw[if_neg e]
        have:(j == i)=false:=by simp;omega
        rw[this,Bool.or_false]
    have hs':Shut ops (withL L i):=by
      intro j hj hLj e he hb
      simp only[withL,Bool.or_eq_true,beq_iff_eq] at hLj ⊢
      rcases hLj with h | h
      · exact .inl (hs j hj h e he hb)
      · subst h;exact .inl (hp e he hb)
    have hcnt':ops.size≤fuel+cntL (withL L i) ops.size:=by
      have:cntL (withL L i) ops.size=cntL L ops.size+1:=by
        unfold cntL
        exact foldF_insert hlt hLi (fun _ _ _ _ _=>rfl)
      omega
    obtain⟨hd,hw,hhow,hskip⟩:=step_same g hs hlt hLi hp fun j hj hLj x hx=>by
      obtain⟨off,h3⟩:=refOf_op hx
      obtain⟨B,hB,_⟩:=(evalO_ok hr h3).op_inv
      have:=(hr.fresh (base+j) (.inl ⟨by omega,by omega,by
        rw[show base+j - base=j by omega]
        exact (congrFun hLdef j).trans hLj⟩)).1
      rw[hB] at this;cases this
    have hd:=dstOk_ok hd
    have eE:=envL_insert g hlt hLi
    have eS:=stL_insert g hs hlt hLi
    have ihr:=fun a w G'=>ih (listed.setIfInBounds i true) a w G' (by simpa using hsz)
    simp only[hL'] at ihr
    have hnewF:∀ b,(listed.setIfInBounds i true).getD (b - base) false=withL L i (b - base):=fun b=>congrFun hL' (b - base)
    have holdF:∀ b,listed.getD (b - base) false=L (b - base):=fun b=>congrFun hLdef (b - base)
    unfold wpOpIn
    rw[ho]
    simp only
    rw[wantS_ok hr hw]
    cases hb:(out i).w with
    | false =>
      rw[if_neg (by simp)]
      have e0:=hskip hb
      have eS':stL out S0 (withL L i) ops.size=stL out S0 L ops.size:=by rw[eS,e0];rfl
      have eE':envL ops out E0 (withL L i) ops.size=(envL ops out E0 L ops.size).put (ops[i]).dst (.d (.v undef)):=by rw[eE,e0]
      refine⟨fun _ _=>trivial,?_⟩
      refine ihr _ _ G' hcnt' hs' (by rw[eS'];exact hnx) (by rw[eS'];exact hnx2) ?_ f
      rw[eE',eS']
      refine (hr.less (fun b hb=>?_)).put hd (.d (.v rfl))
      rcases hb with ⟨b1,b2,b3⟩ | hb
      · refine .inl ⟨b1,b2,?_⟩
        rw[hnewF b] at b3
        rw[holdF b]
        simp only[withL,Bool.or_eq_false_iff] at b3
        exact b3.1
      · exact .inr hb
    | true =>
      rw[if_pos rfl]
      have hop:=(hhow hb).opS
      refine (hop.2 m0 w0 G' _ a w hr (.inl ⟨by omega,by omega,by rw[holdF];simpa using hLi⟩) (fun b hb=>.inr (.inl hb)) _ _ (fun G'' u w' hu hr' f'=>?_))
      have hk:=hop.1
      refine ihr _ _ G'' hcnt' hs' (by rw[eS];exact Nat.le_trans hnx hk.nx) (by rw[eS];exact Nat.le_trans hnx2 hk.nx) ?_ (f.trans f')
      rw[eE,eS]
      have hx:=hk.nx
      refine (hr'.less (fun b hb=>?_)).put (fun k hk'=>by rw[hk.n];exact hd k hk') hu
      rcases hb with ⟨b1,b2,b3⟩ | hb | hb
      · rw[hnewF b] at b3
        simp only[withL,Bool.or_eq_false_iff,beq_eq_false_iff_ne] at b3
        exact⟨.inl ⟨b1,b2,by rw[holdF b];exact b3.1⟩,by omega,by omega⟩
      · exact⟨.inr (.inl (by omega)),by omega,by omega⟩
      · have:=hH b hb
        exact⟨.inr (.inr hb),by omega,by omega⟩
theorem foldF_none {X:Type}{f:Nat→X→X}{L:Nat→Bool}:∀ {n:Nat}{x:X},(∀ j,j<n→L j=false)→foldF f L n x=x
  | 0,x,h=>rfl
  | n+1,x,h=>by
    simp only[foldF]
    rw[if_neg (by rw[h n (by omega)];simp)]
    exact foldF_none fun j hj=>h j (by omega)
theorem Tr.len {lo:Nat→Bool}:∀ {l:List Oper}{r:List Out}{i:Nat}{E:Env}{S:St}{E':Env}{S':St},Tr lo P ops base i l E S r E' S'→r.length=l.length
  | [],[],_,_,_,_,_,_=>rfl
  | o::l,ot::r,i,E,S,E',S',h=>by simp[Tr.len h.2]
  | [],_::_,_,_,_,_,_,h=>h.elim
  | _::_,[],_,_,_,_,_,h=>h.elim
theorem no_new {m0:Nat→Nat}{w0:World}{G:Gh}{E:Env}{S:St}{H:Nat→Prop}{a:Act}{w:World} (hr:Rel m0 w0 G E S (fun b=>S.nx≤b∨H b) a w) {x:Nat} (hx:S.nx≤x):S.B x=none:=by
  cases hb:S.B x with
  | none=>rfl
  | some cs =>
    exfalso
    have ho:=hr.more.ofresh x (.inl hx)
    obtain⟨B,_,_,h1,_⟩:=hr.box x cs hb ho
    rw[(hr.fresh x (.inl hx)).1] at h1;cases h1
theorem CS.draw {id:Nat}{ops:Array Oper}{E:Env}{S:St}{Q:Exit→Env→St→Prop} (sp:Spl) (ol:Old) (hok:drawOk P ops sp ol=true) (hsp:SepT sp E) (hol:OldT ol S.nx E) (h:VL (drawLo ops) P ops S.nx 0 ops.toList E (S.adv ops.size) (fun E' S'=>Q .normal E' S')):CS P (.region id ops true) E S Q:=by
  intro m0 w0 G a w H hH hr QQ hQ
  have ok:=drawOk_ok hok
  obtain⟨r,E',S',htr,hq⟩:=VL.trace h (by simp[drawLo])
  have hlen:=Tr.len htr
  simp only[Array.length_toList] at hlen
  obtain⟨h1,h2,h3⟩:=Tr.at (E0:=E) (S0:=S.adv ops.size) (out:=fun j=>r.getD j ⟨false, .d (.v undef),fun x=>x,fun x=>x,fun x=>x⟩) htr (fun k hk=>by simp) (fun k hk=>by
    have hk':k<r.length:=by rw[hlen];simpa using hk
    rw[Nat.zero_add,List.getD_eq_getElem?_getD,List.getElem?_eq_getElem hk',Option.getD_some]) rfl rfl
  simp only[Nat.zero_add,Array.length_toList] at h1 h2 h3
  have g:Given P ops sp ol E (S.adv ops.size) S.nx (fun j=>r.getD j ⟨false, .d (.v undef),fun x=>x,fun x=>x,fun x=>x⟩):=⟨ok,fun k hk=>by simpa using h1 k hk,hr.few,hsp,hol,fun q _=>no_new hr (by omega)⟩
  have hL:(fun i=>(Array.replicate ops.size false).getD i false)=fun _=>false:=by
    funext i
    simp only[Array.getD_eq_getD_getElem?,Array.getElem?_replicate]
    split<;>rfl
  have eE:envL ops (fun j=>r.getD j ⟨false, .d (.v undef),fun x=>x,fun x=>x,fun x=>x⟩) E (fun _=>false) ops.size=E:=foldF_none fun _ _=>rfl
  have eS:stL (fun j=>r.getD j ⟨false, .d (.v undef),fun x=>x,fun x=>x,fun x=>x⟩) (S.adv ops.size) (fun _=>false) ops.size=S.adv ops.size:=by
    unfold stL
    rw[foldF_none fun _ _=>rfl,foldF_none fun _ _=>rfl,foldF_none fun _ _=>rfl]
  refine (wpIn_wide (n:=0)).1 (wpIn_region_any ok.mixed ?_)
  refine any_ok g (m0:=m0) (w0:=w0) (G:=G) (w1:=w) hH (fun G' a' w' hr' hnx f=>?_) ops.size (Array.replicate ops.size false) a w.drew G (by simp) (by omega) (fun i hi hL'=>?_) ?_ ?_ ?_ (fut_draw G w)
  · rw[← h2, ← h3] at hr'
    rw[← h3] at hnx
    refine hQ .normal G' E' S' a' w' hq ⟨?_,?_,?_,?_⟩ hr' f
    · rw[h3];rfl
    · rw[h3];rfl
    · rw[h3];rfl
    · simp only[St.adv] at hnx;omega
  · rw[hL] at hL';cases hL'
  · rw[hL,eS];exact Nat.le_refl _
  · rw[hL,eS];simp[St.adv]
  · rw[hL,eS,eE]
    refine (hr.draw.adv ops.size).less fun b hb=>?_
    simp only[St.adv] at hb
    rcases hb with ⟨hb,_,_⟩ | hb | hb
    · exact .inl hb
    · exact .inl (by omega)
    · exact .inr hb
end
end Go.Sh
