/- ShO and what follows it, one behind another. -/
import Derived.Test.YtbmoiajdknejnaaGreatMg3
import Derived.OpenShut
import Derived.SizedLaws
import Derived.SliceStrings
set_option linter.unusedVariables false
set_option linter.unusedSimpArgs false
namespace Go.Sh
section
variable {P:Program}{E:Env}{S:St}
@[simp] theorem argsS_nil:argsS E []=some []:=(rfl)
def consO {α:Type}:Option α→Option (List α)→Option (List α)
  | some s,some ss=>some (s::ss)
  | _,_=>none
@[simp] theorem consO_some {α:Type} (s:α) (ss:List α):consO (some s) (some ss)=some (s::ss):=(rfl)
@[simp] theorem argsS_cons (x:Operand) (r:List Operand):argsS E (x::r)=consO (evalO E x) (argsS E r):=by
  simp only[argsS,consO]
  split<;>simp_all
@[simp] theorem toDs_nil:toDs []=some []:=by simp[toDs]
@[simp] theorem toDs_cons (s:SV) (r:List SV):toDs (s::r)=consO s.toD (toDs r):=by
  simp only[toDs,consO]
  split<;>simp_all
@[simp] theorem toDs_map:∀ xs:List D,toDs (xs.map .d)=some xs
  | []=>by simp
  | x::r=>by simp only[List.map_cons,toDs_cons,toDs_map r];rfl
@[simp] theorem toD_d (x:D):(SV.d x).toD=some x:=(rfl)
@[simp] theorem toD_fl (cs:List D) (n:Nat):(SV.fl cs n).toD=some (.ps cs n):=(rfl)
@[simp] theorem toD_ag (cs:List SV):(SV.ag cs).toD=(toDs cs).map .agg:=(rfl)
@[simp] theorem toD_sk (b n sz:Nat):(SV.sk b n sz).toD=none:=(rfl)
def fnO (f:Fn):Option (List D)→Option (List D)→Option D
  | some xs,some ys=>some (.fn f xs ys)
  | _,_=>none
@[simp] theorem fnO_some (f:Fn) (xs ys:List D):fnO f (some xs) (some ys)=some (.fn f xs ys):=(rfl)
@[simp] theorem cells_sk (b n sz:Nat):(SV.sk b n sz).cells=[.sk b n sz]:=(rfl)
@[simp] theorem cells_dfn (f:Fn) (xs ys:List D):(SV.d (.fn f xs ys)).cells=[.d (.fn f xs ys)]:=(rfl)
@[simp] theorem cells_mp (ks vs:List D):(SV.d (.mp ks vs)).cells=[.d (.mp ks vs)]:=(rfl)
@[simp] theorem one_sk (b n sz:Nat):(SV.sk b n sz).one=true:=(rfl)
@[simp] theorem one_dfn (f:Fn) (xs ys:List D):(SV.d (.fn f xs ys)).one=true:=(rfl)
@[simp] theorem one_mp (ks vs:List D):(SV.d (.mp ks vs)).one=true:=(rfl)
@[simp] theorem cells_ag (cs:List SV):(SV.ag cs).cells=cs:=(rfl)
@[simp] theorem cells_agg (cs:List D):(SV.d (.agg cs)).cells=cs.map .d:=(rfl)
@[simp] theorem cells_v (x:Value):(SV.d (.v x)).cells=[.d (.v x)]:=(rfl)
@[simp] theorem cells_ps (cs:List D) (n:Nat):(SV.d (.ps cs n)).cells=[.d (.ps cs n)]:=(rfl)
@[simp] theorem cells_pp (cs:List D) (n:Nat):(SV.d (.pp cs n)).cells=[.d (.pp cs n)]:=(rfl)
@[simp] theorem cells_fl (cs:List D) (n:Nat):(SV.fl cs n).cells=[.fl cs n]:=(rfl)
@[simp] theorem cells_os (b off n:Nat):(SV.os b off n).cells=[.os b off n]:=(rfl)
@[simp] theorem one_ag (cs:List SV):(SV.ag cs).one=true:=(rfl)
@[simp] theorem one_agg (cs:List D):(SV.d (.agg cs)).one=true:=(rfl)
@[simp] theorem one_bool (b:Bool):(SV.d (.v (.bool b))).one=true:=(rfl)
@[simp] theorem one_int (k:IntKind) (n:Int):(SV.d (.v (.int k n))).one=true:=(rfl)
@[simp] theorem one_string (s:ByteArray):(SV.d (.v (.string s))).one=true:=(rfl)
@[simp] theorem one_ps (cs:List D) (n:Nat):(SV.d (.ps cs n)).one=true:=(rfl)
@[simp] theorem one_pp (cs:List D) (n:Nat):(SV.d (.pp cs n)).one=true:=(rfl)
@[simp] theorem one_fl (cs:List D) (n:Nat):(SV.fl cs n).one=true:=(rfl)
@[simp] theorem one_os (b off n:Nat):(SV.os b off n).one=true:=(rfl)
@[simp] theorem dcells_agg (cs:List D):(D.agg cs).cells=cs:=(rfl)
@[simp] theorem dcells_v_int (k:IntKind) (n:Int):(D.v (.int k n)).cells=[.v (.int k n)]:=(rfl)
@[simp] theorem dcells_v_string (s:ByteArray):(D.v (.string s)).cells=[.v (.string s)]:=(rfl)
@[simp] theorem done_agg (cs:List D):(D.agg cs).one=true:=(rfl)
@[simp] theorem done_int (k:IntKind) (n:Int):(D.v (.int k n)).one=true:=(rfl)
@[simp] theorem done_string (s:ByteArray):(D.v (.string s)).one=true:=(rfl)
@[simp] theorem partsS_nil:partsS E []=some []:=(rfl)
def partC {α:Type} (i:Nat):Option (Bool×List α)→Option (List (Nat×List α))→Option (List (Nat×List α))
  | some (true,cs),some l=>some ((i,cs)::l)
  | _,_=>none
@[simp] theorem partC_some {α:Type} (i:Nat) (cs:List α) (l:List (Nat×List α)):partC i (some (true,cs)) (some l)=some ((i,cs)::l):=(rfl)
@[simp] theorem partsS_cons (i:Nat) (x:Operand) (r:List (Nat×Operand)):partsS E ((i,x)::r)=partC i ((evalO E x).map fun s=>(s.one,s.cells)) (partsS E r):=by
  simp only[partsS]
  cases evalO E x with
  | none=>rfl
  | some s =>
    cases partsS E r with
    | none=>simp[partC]
    | some l=>cases h:s.one<;>simp[partC,h]
@[simp] theorem partsD_nil:partsD E []=some []:=(rfl)
@[simp] theorem partsD_cons (i:Nat) (x:Operand) (r:List (Nat×Operand)):partsD E ((i,x)::r)=partC i (((evalO E x).bind SV.toD).map fun s=>(s.one,s.cells)) (partsD E r):=by
  simp only[partsD]
  cases evalO E x with
  | none=>rfl
  | some s =>
    cases partsD E r with
    | none=>simp[partC]
    | some l =>
      cases hd:s.toD with
      | none=>simp[partC,hd]
      | some d=>cases h:d.one<;>simp[partC,hd,h]
@[simp] theorem fillL_nil {α:Type} (place:Nat→Option (Nat×Nat)) (cells:List α):fillL place cells []=some cells:=(rfl)
def fill1 {α:Type} (place:Nat→Option (Nat×Nat)) (cells cs:List α) (r:List (Nat×List α)):Option (Nat×Nat)→Option (List α)
  | some (off,size)=>if cs.length=size∧off+size≤cells.length then fillL place (cells.take off++cs++cells.drop (off+size)) r else none
  | none=>none
@[simp] theorem fill1_some {α:Type} (place:Nat→Option (Nat×Nat)) (cells cs:List α) (r:List (Nat×List α)) (off size:Nat):fill1 place cells cs r (some (off,size))=if cs.length=size∧off+size≤cells.length then fillL place (cells.take off++cs++cells.drop (off+size)) r else none:=(rfl)
@[simp] theorem fillL_cons {α:Type} (place:Nat→Option (Nat×Nat)) (cells:List α) (i:Nat) (cs:List α) (r:List (Nat×List α)):fillL place cells ((i,cs)::r)=fill1 place cells cs r (place i):=by
  show (match place i with | some (off,size)=>if cs.length=size∧off+size≤cells.length then fillL place (cells.take off++cs++cells.drop (off+size)) r else none | none=>none)=_
  unfold fill1
  split<;>simp_all
@[simp] theorem evalLen_string (b:ByteArray) (T:TypeId):evalLen P (.d (.v (.string b))) T=if isString P T=true then some (.d (.v (.int .i64 b.size))) else none:=(rfl)
@[simp] theorem evalLen_ps (cs:List D) (n:Nat) (T:TypeId):evalLen P (.d (.ps cs n)) T=if isSlice P T=true then some (.d (.v (.int .i64 n))) else none:=(rfl)
@[simp] theorem evalLen_os (b off n:Nat) (T:TypeId):evalLen P (.os b off n) T=if isSlice P T=true then some (.d (.v (.int .i64 n))) else none:=(rfl)
@[simp] theorem evalLen_sk (b n sz:Nat) (T:TypeId):evalLen P (.sk b n sz) T=if isSlice P T=true then some (.d (.v (.int .i64 n))) else none:=(rfl)
@[simp] theorem evalLen_mp (ks vs:List D) (T:TypeId):evalLen P (.d (.mp ks vs)) T=if isMap P T=true then some (.d (.v (.int .i64 ks.length))) else none:=(rfl)
@[simp] theorem rowS_ps (cs:List D) (n:Nat):rowS (.d (.ps cs n))=some (cs,n):=(rfl)
@[simp] theorem rowS_fl (cs:List D) (n:Nat):rowS (.fl cs n)=some (cs,n):=(rfl)
def rowAt (i:Int):Option (List D×Nat)→Option (TypeId×Nat)→Option SV
  | some (cs,n),some (_,sz)=>onlyIf (0≤i∧i<n) (.d (.pp cs (i.toNat*sz)))
  | _,_=>none
@[simp] theorem rowAt_some (i:Int) (cs:List D) (n e sz:Nat):rowAt i (some (cs,n)) (some (e,sz))=onlyIf (0≤i∧i<n) (.d (.pp cs (i.toNat*sz))):=(rfl)
@[simp] theorem evalIndexAddr_ps (T:TypeId) (cs:List D) (n:Nat) (i:Int):evalIndexAddr P T (.d (.ps cs n)) i=rowAt i (some (cs,n)) (elemOf P T):=(rfl)
def osAt (b off n:Nat) (i:Int):Option (TypeId×Nat)→Option SV
  | some (_,sz)=>onlyIf (0≤i∧i<n) (.op b (off+i.toNat*sz))
  | none=>none
@[simp] theorem osAt_some (b off n:Nat) (i:Int) (e sz:Nat):osAt b off n i (some (e,sz))=onlyIf (0≤i∧i<n) (.op b (off+i.toNat*sz)):=(rfl)
@[simp] theorem evalIndexAddr_os (T:TypeId) (b off n:Nat) (i:Int):evalIndexAddr P T (.os b off n) i=osAt b off n i (elemOf P T):=(rfl)
def skAt (b n:Nat) (i:Int):Option (TypeId×Nat)→Option SV
  | some (_,sz)=>onlyIf (0≤i∧i<n) (.op b (i.toNat*sz))
  | none=>none
@[simp] theorem skAt_some (b n:Nat) (i:Int) (e sz:Nat):skAt b n i (some (e,sz))=onlyIf (0≤i∧i<n) (.op b (i.toNat*sz)):=(rfl)
@[simp] theorem evalIndexAddr_sk (T:TypeId) (b n sz:Nat) (i:Int):evalIndexAddr P T (.sk b n sz) i=skAt b n i (elemOf P T):=(rfl)
@[simp] theorem onlyIf_map {α β:Type} (c:Prop) [Decidable c] (x:α) (f:α→β):(onlyIf c x).map f=onlyIf c (f x):=by
  unfold onlyIf
  split<;>rfl
@[simp] theorem onlyIf_true {α:Type} (x:α):onlyIf True x=some x:=(rfl)
@[simp] theorem mkIfc_d (T:TypeId) (x:D):mkIfc T (.d x)=.d (.ifc T x):=(rfl)
@[simp] theorem mkIfc_ag (T:TypeId) (cs:List SV):mkIfc T (.ag cs)=.fc T (.ag cs):=(rfl)
@[simp] theorem tupS_tu (cs:List SV) (i:Nat):tupS (.tu cs) i=cs[i]?:=(rfl)
@[simp] theorem tupS_tup (cs:List D) (i:Nat):tupS (.d (.tup cs)) i=cs[i]?.map .d:=(rfl)
def assertC (P:Program) (A:TypeId) (t:TypeId) (s:SV):Bool→Option SV→Option SV
  | true,some z=>some (if t=A then .tu [s, .d (.v (.bool true))] else .tu [z, .d (.v (.bool false))])
  | _,_=>none
@[simp] theorem assertC_some (A t:TypeId) (s z:SV):assertC P A t s true (some z)=some (if t=A then .tu [s, .d (.v (.bool true))] else .tu [z, .d (.v (.bool false))]):=(rfl)
@[simp] theorem evalAssert_ifc (A t:TypeId) (x:D):evalAssert P A true (.d (.ifc t x))=assertC P A t (.d x) (concrete P A) (zeroS P A):=by
  unfold evalAssert assertC
  cases concrete P A<;>cases zeroS P A<;>rfl
def intO:Option SV→Option Int
  | some (.d (.v (.int _ n)))=>some n
  | _=>none
@[simp] theorem intO_some (k:IntKind) (n:Int):intO (some (.d (.v (.int k n))))=some n:=(rfl)
@[simp] theorem bndS_none (d:Nat):bndS E d none=some (d:Int):=(rfl)
@[simp] theorem bndS_some (d:Nat) (x:Operand):bndS E d (some x)=intO (evalO E x):=by
  show (match evalO E x with | some (.d (.v (.int _ n)))=>some n | _=>none)=_
  rfl
def sliceRow (cs:List D) (n:Nat):Option (TypeId×Nat)→Option Int→Option Int→Option SV
  | some (_,sz),some l,some u=>onlyIf (0≤l∧l≤u∧u≤n) (.d (.ps ((cs.drop (l.toNat*sz)).take ((u.toNat - l.toNat)*sz)) (u.toNat - l.toNat)))
  | _,_,_=>none
@[simp] theorem sliceRow_some (cs:List D) (n e sz:Nat) (l u:Int):sliceRow cs n (some (e,sz)) (some l) (some u)=onlyIf (0≤l∧l≤u∧u≤n) (.d (.ps ((cs.drop (l.toNat*sz)).take ((u.toNat - l.toNat)*sz)) (u.toNat - l.toNat))):=(rfl)
@[simp] theorem evalSlice_ps (T:TypeId) (cs:List D) (n:Nat) (lo hi:Option Operand):evalSlice P E S T (.d (.ps cs n)) lo hi=sliceRow cs n (elemOf P T) (bndS E 0 lo) (bndS E n hi):=(rfl)
def sliceSk (b n sz:Nat):Option (TypeId×Nat)→Option Int→Option SV
  | some _,some u=>onlyIf (0≤u∧u≤n) (.sk b u.toNat sz)
  | _,_=>none
@[simp] theorem sliceSk_some (b n sz:Nat) (x:TypeId×Nat) (u:Int):sliceSk b n sz (some x) (some u)=onlyIf (0≤u∧u≤n) (.sk b u.toNat sz):=(rfl)
@[simp] theorem evalSlice_sk (T:TypeId) (b n sz:Nat) (hi:Option Operand):evalSlice P E S T (.sk b n sz) none hi=sliceSk b n sz (elemOf P T) (bndS E n hi):=by
  show (match elemOf P T,bndS E n hi with | some _,some u=>onlyIf (0≤u∧u≤n) (SV.sk b u.toNat sz) | _,_=>none)=_
  cases elemOf P T<;>cases bndS E n hi<;>rfl
def makeC (md:List Nat) (id:Nat) (dst:Option Nat) (l c:Int):Option (List SV×Nat×Nat)→Option (SV×Eff)
  | some (zs,sz,by_)=>if (dst.any fun d=>md.contains d)=true then onlyIf (l=0∧0<sz∧0≤c∧(by_:Int)*c≤281474976710656∧c≤9223372036854775807) (.tp id 0 [] 0, .tip id 0 sz)
    else if (dst.any fun d=>md.contains (d+1000000))=true then onlyIf (0≤l∧l≤c∧(by_:Int)*c≤281474976710656∧c≤9223372036854775807) (.sk id l.toNat sz, .new ((List.range (l.toNat*sz)).map fun j=>zs.getD (j % sz) (.d (.v undef))))
    else onlyIf (c=l∧0≤l∧(by_:Int)*l≤281474976710656∧l≤9223372036854775807) (.os id 0 l.toNat, .new ((List.range (l.toNat*sz)).map fun j=>zs.getD (j % sz) (.d (.v undef))))
  | none=>none
def madeS (zs:List SV) (sz n:Nat):List SV:=(List.range (n*sz)).map fun j=>zs.getD (j % sz) (.d (.v undef))
@[simp] theorem makeC_some (md:List Nat) (id:Nat) (dst:Option Nat) (l c:Int) (zs:List SV) (sz by_:Nat):makeC md id dst l c (some (zs,sz,by_))=if (dst.any fun d=>md.contains d)=true then onlyIf (l=0∧0<sz∧0≤c∧(by_:Int)*c≤281474976710656∧c≤9223372036854775807) (.tp id 0 [] 0, .tip id 0 sz)
    else if (dst.any fun d=>md.contains (d+1000000))=true then onlyIf (0≤l∧l≤c∧(by_:Int)*c≤281474976710656∧c≤9223372036854775807) (.sk id l.toNat sz, .new (madeS zs sz l.toNat))
    else onlyIf (c=l∧0≤l∧(by_:Int)*l≤281474976710656∧l≤9223372036854775807) (.os id 0 l.toNat, .new (madeS zs sz l.toNat)):=(rfl)
@[simp] theorem evalMake_int (id:Nat) (d:Option Nat) (T:TypeId) (k k':IntKind) (l c:Int):evalMake P S id d T (.d (.v (.int k l))) (.d (.v (.int k' c)))=makeC S.md id d l c (makeOf P T):=by
  unfold evalMake makeC
  cases makeOf P T<;>rfl
def convInt (n:Int):Option IntKind→Bool→Option (SV×Eff)
  | some k,true=>some (.d (.v (.int k (k.wrap n))), .no)
  | _,_=>none
@[simp] theorem convInt_some (n:Int) (k:IntKind):convInt n (some k) true=some (.d (.v (.int k (k.wrap n))), .no):=(rfl)
@[simp] theorem evalConv_int (id T U:Nat) (k:IntKind) (n:Int):evalConv P id T U (.d (.v (.int k n)))=convInt n (intKindOf P U) (known P T):=(rfl)
def convRow (n:Nat):Option (List Int)→Option TypeId→Bool→Option (SV×Eff)
  | some ns,some _,true=>onlyIf (ns.length=n) (.d (.v (.string (strOfNums ns))), .no)
  | _,_,_=>none
@[simp] theorem convRow_some (n:Nat) (ns:List Int) (e:TypeId):convRow n (some ns) (some e) true=onlyIf (ns.length=n) (.d (.v (.string (strOfNums ns))), .no):=(rfl)
@[simp] theorem evalConv_fl (id T U:Nat) (cs:List D) (n:Nat):evalConv P id T U (.fl cs n)=convRow n (numsOf cs) (bytesOf P T) (isString P U):=(rfl)
def appFl (md:List Nat) (id:Nat) (dst:Option Nat) (cs:List D) (n:Nat) (t:Nat→Option (List SV×Nat)):Option (List D×Nat)→Option (TypeId×Nat×Nat)→Option (SV×Eff)
  | some (ds,m),some (_,sz,by_)=>if m=0 then some (.fl cs n, .no) else
        if (dst.any fun d=>md.contains d)=true then onlyIf (cs.length=n*sz∧ds.length=m*sz∧appBound n m by_) (.os id 0 (n+m), .new ((cs++ds).map .d))
        else if (dst.any fun d=>md.contains (d+1000000))=true then onlyIf (cs.length=n*sz∧ds.length=m*sz∧appBound n m by_) (.sk id (n+m) sz, .new (cs.map .d++ds.map .d))
        else onlyIf (cs.length=n*sz∧ds.length=m*sz∧appBound n m by_) (.tp id 0 (cs++ds) (n+m), .tip id (n+m) sz)
  | none,some (_,sz,by_)=>appV (fun _=>none) id (.fl cs n) sz by_ (t sz)
  | _,_=>none
@[simp] theorem appFl_some (md : List Nat) (id : Nat) (dst : Option Nat) (cs ds : List D) (n m e sz by_ : Nat) (t : Nat → Option (List SV × Nat)) : appFl md id dst cs n t (some (ds, m)) (some (e, sz, by_)) = if m = 0 then some (.fl cs n, .no) else
        if (dst.any fun d=>md.contains d)=true then onlyIf (cs.length=n*sz∧ds.length=m*sz∧appBound n m by_) (.os id 0 (n+m), .new ((cs++ds).map .d))
        else if (dst.any fun d=>md.contains (d+1000000))=true then onlyIf (cs.length=n*sz∧ds.length=m*sz∧appBound n m by_) (.sk id (n+m) sz, .new (cs.map .d++ds.map .d))
        else onlyIf (cs.length=n*sz∧ds.length=m*sz∧appBound n m by_) (.tp id 0 (cs++ds) (n+m), .tip id (n+m) sz):=(rfl)
@[simp] theorem appFl_none (md:List Nat) (id:Nat) (dst:Option Nat) (cs:List D) (n e sz by_:Nat) (t:Nat→Option (List SV×Nat)):appFl md id dst cs n t none (some (e,sz,by_))=appV (fun _=>none) id (.fl cs n) sz by_ (t sz):=(rfl)
@[simp] theorem appV_fl (B:Nat→Option (List SV)) (id:Nat) (cs:List D) (xs:List SV) (n m sz by_:Nat):appV B id (.fl cs n) sz by_ (some (xs,m))=onlyIf (0<m∧cs.length=n*sz∧xs.length=m*sz∧appBound n m by_) (.sk id (n+m) sz, .new (cs.map .d++xs)):=(rfl)
@[simp] theorem evalAppend_fl (id:Nat) (d:Option Nat) (T:TypeId) (cs:List D) (n:Nat) (t:SV):evalAppend P S id d T (.fl cs n) t=appFl S.md id d cs n (fun sz=>rowSV S.B sz t) (rowS t) (appOf P T):=by
  unfold evalAppend appFl
  cases rowS t with
  | none =>
    cases appOf P T with
    | none=>rfl
    | some x =>
      obtain⟨e,sz,by_⟩:=x
      show appV S.B id (.fl cs n) sz by_ (rowSV S.B sz t)=appV (fun _=>none) id (.fl cs n) sz by_ (rowSV S.B sz t)
      cases rowSV S.B sz t<;>rfl
  | some y=>cases appOf P T<;>rfl
def appTp (T:Nat→Option (Nat×Nat)) (i q:Nat) (cs:List D) (n:Nat):Option (List D×Nat)→Option (TypeId×Nat×Nat)→Option (SV×Eff)
  | some (ds,m),some (_,sz,by_)=>onlyIf (T i=some (q+n,sz)∧cs.length=n*sz∧ds.length=m*sz∧appBound n m by_) (.tp i q (cs++ds) (n+m), .tip i (q+(n+m)) sz)
  | _,_=>none
@[simp] theorem appTp_some (T:Nat→Option (Nat×Nat)) (i q:Nat) (cs ds:List D) (n m e sz by_:Nat):appTp T i q cs n (some (ds,m)) (some (e,sz,by_))=onlyIf (T i=some (q+n,sz)∧cs.length=n*sz∧ds.length=m*sz∧appBound n m by_) (.tp i q (cs++ds) (n+m), .tip i (q+(n+m)) sz):=(rfl)
@[simp] theorem evalAppend_tp (id:Nat) (d:Option Nat) (T i q:Nat) (cs:List D) (n:Nat) (t:SV):evalAppend P S id d T (.tp i q cs n) t=appTp S.T i q cs n (rowS t) (appOf P T):=by
  unfold evalAppend appTp
  cases rowS t with
  | none =>
    cases appOf P T with
    | none=>rfl
    | some x =>
      obtain⟨e,sz,by_⟩:=x
      show appV S.B id (.tp i q cs n) sz by_ (rowSV S.B sz t)=none
      cases rowSV S.B sz t<;>rfl
  | some y=>cases appOf P T<;>rfl
def appSk (id b n sz':Nat) (t:Nat→Option (List SV×Nat)):Option (List SV)→Option (List D×Nat)→Option (TypeId×Nat×Nat)→Option (SV×Eff)
  | some cs,some (ds,m),some (_,sz,by_)=>onlyIf (sz'=sz∧0<m∧n*sz≤cs.length∧ds.length=m*sz∧appBound n m by_) (.sk id (n+m) sz, .mov b (cs.take (n*sz)++ds.map .d))
  | some cs,none,some (_,sz,by_)=>appV (fun _=>some cs) id (.sk b n sz') sz by_ (t sz)
  | _,_,_=>none
@[simp] theorem appSk_none (id b n sz':Nat) (cs:List SV) (e sz by_:Nat) (t:Nat→Option (List SV×Nat)):appSk id b n sz' t (some cs) none (some (e,sz,by_))=appV (fun _=>some cs) id (.sk b n sz') sz by_ (t sz):=(rfl)
@[simp] theorem appV_sk (id b n sz':Nat) (cs xs:List SV) (m sz by_:Nat):appV (fun _=>some cs) id (.sk b n sz') sz by_ (some (xs,m))=onlyIf (sz'=sz∧0<m∧n*sz≤cs.length∧xs.length=m*sz∧appBound n m by_) (.sk id (n+m) sz, .mov b (cs.take (n*sz)++xs)):=(rfl)
theorem appV_skB (B:Nat→Option (List SV)) (id b n sz z by_:Nat) (r:Option (List SV×Nat)):appV B id (.sk b n sz) z by_ r=(B b).bind fun cs=>appV (fun _=>some cs) id (.sk b n sz) z by_ r:=by
  cases r with
  | none=>cases B b<;>rfl
  | some p =>
    obtain⟨xs,m⟩:=p
    show (match B b with | some cs=>onlyIf (sz=z∧0<m∧n*z≤cs.length∧xs.length=m*z∧appBound n m by_) (SV.sk id (n+m) z,Eff.mov b (cs.take (n*z)++xs)) | none=>none)=_
    cases B b<;>rfl
@[simp] theorem evalAppend_sk (id:Nat) (d:Option Nat) (T b n sz:Nat) (t:SV):evalAppend P S id d T (.sk b n sz) t=appSk id b n sz (fun z=>rowSV S.B z t) (S.B b) (rowS t) (appOf P T):=by
  unfold evalAppend
  cases rowS t with
  | none =>
    cases appOf P T with
    | none=>cases S.B b<;>rfl
    | some x =>
      obtain⟨e,z,by_⟩:=x
      show appV S.B id (.sk b n sz) z by_ (rowSV S.B z t)=_
      rw[appV_skB]
      cases S.B b<;>rfl
  | some y =>
    obtain⟨ds,m⟩:=y
    cases appOf P T with
    | none=>cases S.B b<;>rfl
    | some x =>
      obtain⟨e,z,by_⟩:=x
      show (match S.B b with | some cs=>onlyIf (sz=z∧0<m∧n*z≤cs.length∧ds.length=m*z∧appBound n m by_) (SV.sk id (n+m) z,Eff.mov b (cs.take (n*z)++ds.map SV.d)) | none=>none)=_
      cases S.B b<;>rfl
@[simp] theorem rowS_ls (cs:List SV) (n:Nat):rowS (.ls cs n)=none:=(rfl)
@[simp] theorem rowSV_ls (B:Nat→Option (List SV)) (sz:Nat) (cs:List SV) (n:Nat):rowSV B sz (.ls cs n)=some (cs,n):=(rfl)
@[simp] theorem idxK_consS (k:ByteArray) (ks:List D) (s:ByteArray):idxK (.v (.string k)::ks) s=if k=s then some (some 0) else (idxK ks s).map (·.map (·+1)):=(rfl)
theorem lookS_at {T e:TypeId}{ks:List D}{vs:List SV}{s:ByteArray}{ok:Bool}{j:Nat}{v:SV} (hT:Sh.mapOf P T=some e) (hi:idxK ks s=some (some j)) (hv:vs[j]?=some v):lookS P T ks vs s ok=some (if ok then .tu [v, .d (.v (.bool true))] else v):=by
  simp[lookS,hT,hi,hv,lookR]
theorem lookS_none {T e:TypeId}{ks:List D}{vs:List SV}{s:ByteArray}{ok:Bool}{z:SV} (hT:Sh.mapOf P T=some e) (hi:idxK ks s=some none) (hz:zeroS P e=some z):lookS P T ks vs s ok=some (if ok then .tu [z, .d (.v (.bool false))] else z):=by
  simp[lookS,hT,hi,hz,lookR]
theorem updK_none {ks:List D}{vs:List SV}{s:ByteArray}{v:SV} (hi:idxK ks s=some none):updK ks vs s v=some (.mc (ks++[.v (.string s)]) (vs++[v])):=by simp[updK,hi]
theorem idxK_map {α:Type} (f:α→ByteArray) (s:ByteArray):∀ l:List α,idxK (l.map fun x=>.v (.string (f x))) s=some (l.findIdx? fun x=>decide (f x=s))
  | []=>rfl
  | x::r=>by
    simp only[List.map_cons,idxK_consS,idxK_map f s r,Option.map_some,List.findIdx?_cons]
    by_cases h:f x=s<;>simp[h]
@[simp] theorem binS_add (T:TypeId) (k:IntKind) (a b:Int):binS P .add T (.int k a) (.int k b)=some (.int k (k.wrap (a+b))):=by simp[binS,isShift,intBin]
@[simp] theorem binS_sub (T:TypeId) (k:IntKind) (a b:Int):binS P .sub T (.int k a) (.int k b)=some (.int k (k.wrap (a - b))):=by simp[binS,isShift,intBin]
@[simp] theorem binS_quo (T:TypeId) (k:IntKind) (a b:Int):binS P .quo T (.int k a) (.int k b)=if b=0 then none else some (.int k (k.wrap (a.tdiv b))):=by simp[binS,isShift,intBin]
@[simp] theorem binS_rem (T:TypeId) (k:IntKind) (a b:Int):binS P .rem T (.int k a) (.int k b)=if b=0 then none else some (.int k (a.tmod b)):=by simp[binS,isShift,intBin]
@[simp] theorem binS_eql (T:TypeId) (k:IntKind) (a b:Int):binS P .eql T (.int k a) (.int k b)=some (.bool (decide (a=b))):=by
  have:(a == b)=decide (a=b):=by rw[Bool.eq_iff_iff];simp
  simp[binS,isShift,intBin,this]
@[simp] theorem binS_neq (T:TypeId) (k:IntKind) (a b:Int):binS P .neq T (.int k a) (.int k b)=some (.bool (!decide (a=b))):=by
  have:(a == b)=decide (a=b):=by rw[Bool.eq_iff_iff];simp
  simp[binS,isShift,intBin,bne,this]
@[simp] theorem binS_lss (T:TypeId) (k:IntKind) (a b:Int):binS P .lss T (.int k a) (.int k b)=some (.bool (decide (a<b))):=by simp[binS,isShift,intBin]
@[simp] theorem binS_leq (T:TypeId) (k:IntKind) (a b:Int):binS P .leq T (.int k a) (.int k b)=some (.bool (decide (a≤b))):=by simp[binS,isShift,intBin]
@[simp] theorem binS_gtr (T:TypeId) (k:IntKind) (a b:Int):binS P .gtr T (.int k a) (.int k b)=some (.bool (decide (b<a))):=by simp[binS,isShift,intBin]
@[simp] theorem binS_geq (T:TypeId) (k:IntKind) (a b:Int):binS P .geq T (.int k a) (.int k b)=some (.bool (decide (b≤a))):=by simp[binS,isShift,intBin]
theorem toList_eq {a b:ByteArray}:(a.toList == b.toList)=decide (a=b):=by
  have inj:a.toList=b.toList↔a=b:=by
    constructor
    · intro h
      have e:∀ x:ByteArray,x.toList=x.data.toList:=fun x=>Go.ByteArray.toList_eq x
      rw[e,e] at h
      cases a;cases b;simp only at h
      congr 1
      exact Array.ext' h
    · rintro rfl;rfl
  by_cases h:a=b
  · subst h;simp
  · rw[decide_eq_false h]
    simp only[beq_eq_false_iff_ne,ne_eq,inj]
    exact h
@[simp] theorem binS_seql (T:TypeId) (a b:ByteArray):binS P .eql T (.string a) (.string b)=some (.bool (decide (a=b))):=by simp[binS,strBin,toList_eq]
@[simp] theorem binS_sneq (T:TypeId) (a b:ByteArray):binS P .neq T (.string a) (.string b)=some (.bool (!decide (a=b))):=by simp[binS,strBin,toList_eq]
@[simp] theorem binS_sadd (T:TypeId) (a b:ByteArray):binS P .add T (.string a) (.string b)=if a.size+b.size≤9223372036854775807 then some (.string (a++b)) else none:=by simp[binS,strBin]
@[simp] theorem unS_not (b:Bool):unS .not (.bool b)=some (.bool (!b)):=(rfl)
@[simp] theorem resS_one (x:ResultVar):resS P E S [x]=resOne P E S x:=by
  simp only[resS,resList]
  cases resOne P E S x<;>rfl
@[simp] theorem resS_two (x y:ResultVar):resS P E S [x,y]=(consO (resOne P E S x) (consO (resOne P E S y) (some []))).map .tu:=by
  simp only[resS,resList]
  cases resOne P E S x<;>cases resOne P E S y<;>rfl
@[simp] theorem resOne_tmp (t:Nat):resOne P E S (.tmp t)=evalO E (.tmp t):=(rfl)
def cellE (P:Program) (T:TypeId) (B:Nat→Option (List SV)):Option SV→Option SV
  | some (.op b off)=>match B b with
    | some cs=>loadS P T cs off
    | none=>none
  | _=>none
def cellB (P:Program) (T:TypeId) (off:Nat):Option (List SV)→Option SV
  | some cs=>loadS P T cs off
  | none=>none
@[simp] theorem cellB_some (T off:Nat) (cs:List SV):cellB P T off (some cs)=loadS P T cs off:=(rfl)
@[simp] theorem cellE_op (T:TypeId) (B:Nat→Option (List SV)) (b off:Nat):cellE P T B (some (.op b off))=cellB P T off (B b):=(rfl)
@[simp] theorem resOne_cell (t T:Nat):resOne P E S (.cell t T)=cellE P T S.B (evalO E (.tmp t)):=(rfl)
variable {B:Nat→Option (List SV)}
@[simp] theorem frz_d (k:Nat) (x:D):frz B (k+1) (.d x)=some x:=(rfl)
@[simp] theorem frz_fl (k:Nat) (cs:List D) (n:Nat):frz B (k+1) (.fl cs n)=some (.ps cs n):=(rfl)
@[simp] theorem frz_ag (k:Nat) (cs:List SV):frz B (k+1) (.ag cs)=(mapO (frz B k) cs).map .agg:=(rfl)
@[simp] theorem frz_tu (k:Nat) (cs:List SV):frz B (k+1) (.tu cs)=(mapO (frz B k) cs).map .tup:=(rfl)
@[simp] theorem frz_fc (k:Nat) (t:TypeId) (x:SV):frz B (k+1) (.fc t x)=(frz B k x).map (.ifc t):=(rfl)
def frzP (B:Nat→Option (List SV)) (k off:Nat):Option (List SV)→Option D
  | some cs=>(mapO (frz B k) cs).map fun ds=>.pp ds off
  | none=>none
@[simp] theorem frzP_some (k off:Nat) (cs:List SV):frzP B k off (some cs)=(mapO (frz B k) cs).map fun ds=>.pp ds off:=(rfl)
@[simp] theorem frz_op (k b off:Nat):frz B (k+1) (.op b off)=frzP B k off (B b):=(rfl)
def frzS (B:Nat→Option (List SV)) (k off n:Nat):Option (List SV)→Option D
  | some cs=>(mapO (frz B k) cs).map fun ds=>.ps (ds.drop off) n
  | none=>none
@[simp] theorem frzS_some (k off n:Nat) (cs:List SV):frzS B k off n (some cs)=(mapO (frz B k) cs).map fun ds=>.ps (ds.drop off) n:=(rfl)
@[simp] theorem frz_os (k b off n:Nat):frz B (k+1) (.os b off n)=frzS B k off n (B b):=(rfl)
@[simp] theorem frz_fn (k:Nat) (f:Fn) (xs ys:List SV):frz B (k+1) (.fn f xs ys)=fnO f (mapO (frz B k) xs) (mapO (frz B k) ys):=by
  simp only[frz]
  cases mapO (frz B k) xs<;>cases mapO (frz B k) ys<;>rfl
def frzMv (B:Nat→Option (List SV)) (k:Nat):Option (List SV)→Option D
  | some [.mc ks vs]=>(mapO (frz B k) vs).map (.mp ks)
  | _=>none
@[simp] theorem frzMv_some (k:Nat) (ks:List D) (vs:List SV):frzMv B k (some [.mc ks vs])=(mapO (frz B k) vs).map (.mp ks):=(rfl)
@[simp] theorem frz_mv (k b:Nat):frz B (k+1) (.mv b)=frzMv B k (B b):=by
  simp only[frz,frzMv]
  rfl
@[simp] theorem mapO_nil {α β:Type} (f:α→Option β):mapO f []=some []:=(rfl)
@[simp] theorem mapO_cons {α β:Type} (f:α→Option β) (x:α) (r:List α):mapO f (x::r)=consO (f x) (mapO f r):=by
  simp only[mapO,consO]
  split<;>simp_all
@[simp] theorem mapO_d (k:Nat) (l:List D):mapO (frz B (k+1)) (l.map .d)=some l:=by
  have:=mapO_map (f:=frz B (k+1)) (g:=SV.d) (k:=fun x=>x) (fun x=>rfl) l
  simpa using this
@[simp] theorem mapO_dcomp {α:Type} (k:Nat) (f:α→D) (l:List α):mapO (frz B (k+1)) (l.map (SV.d∘f))=some (l.map f):=mapO_map (f:=frz B (k+1)) (g:=SV.d∘f) (k:=f) (fun x=>rfl) l
end
@[simp] theorem numsOf_nil:numsOf []=some []:=(rfl)
@[simp] theorem numsOf_cons (n:Int) (r:List D):numsOf (.v (.int .u8 n)::r)=(numsOf r).map (n :: ·):=(rfl)
@[simp] theorem le_add2 (n a0 a1:Nat):n≤n+a0+a1:=by omega
@[simp] theorem le_add3 (n a0 a1 a2:Nat):n≤n+a0+a1+a2:=by omega
@[simp] theorem le_add4 (n a0 a1 a2 a3:Nat):n≤n+a0+a1+a2+a3:=by omega
@[simp] theorem le_add5 (n a0 a1 a2 a3 a4:Nat):n≤n+a0+a1+a2+a3+a4:=by omega
@[simp] theorem le_add8 (n a0 a1 a2 a3 a4 a5 a6 a7:Nat):n≤n+a0+a1+a2+a3+a4+a5+a6+a7:=by omega
end Go.Sh
namespace Go.Sh
open Go.RowKit (Below)
mutual
def SV.shift (k:Nat):SV→SV
  | .op b off=>.op (k+b) off
  | .os b off n=>.os (k+b) off n
  | .ag cs=>.ag (shiftS k cs)
  | .tu cs=>.tu (shiftS k cs)
  | .fc t x=>.fc t (SV.shift k x)
  | .fn f xs ys=>.fn f (shiftS k xs) (shiftS k ys)
  | .sk b n sz=>.sk (k+b) n sz
  | .ls cs n=>.ls (shiftS k cs) n
  | s=>s
def shiftS (k:Nat):List SV→List SV
  | []=>[]
  | s::r=>SV.shift k s::shiftS k r
end
theorem shiftS_eq (k:Nat):∀ cs:List SV,shiftS k cs=cs.map (SV.shift k)
  | []=>rfl
  | s::r=>by rw[shiftS,shiftS_eq k r];rfl
theorem shift_cell (k:Nat) (s:SV):(s.shift k).cell=s.cell:=by cases s<;>rfl
@[simp] theorem shift_d (k:Nat) (x:D):(SV.d x).shift k=.d x:=by simp[SV.shift]
@[simp] theorem shift_fl (k:Nat) (cs:List D) (n:Nat):(SV.fl cs n).shift k=.fl cs n:=by simp[SV.shift]
@[simp] theorem shift_os (k b off n:Nat):(SV.os b off n).shift k=.os (k+b) off n:=by simp[SV.shift]
@[simp] theorem shift_op (k b off:Nat):(SV.op b off).shift k=.op (k+b) off:=by simp[SV.shift]
@[simp] theorem shift_ag (k:Nat) (cs:List SV):(SV.ag cs).shift k=.ag (cs.map (SV.shift k)):=by simp[SV.shift,shiftS_eq]
@[simp] theorem shift_tu (k:Nat) (cs:List SV):(SV.tu cs).shift k=.tu (cs.map (SV.shift k)):=by simp[SV.shift,shiftS_eq]
def ghB (Bx:Nat→Option Nat):Gh:=⟨Bx,fun _=>none,fun _=>0,fun _=>none⟩
theorem VR.shiftTo {Bx:Nat→Option Nat}{w:World}{G:Gh}{k:Nat} (h:∀ b B,Bx b=some B→G.box (k+b)=some B) {s:SV}{u:Value} (hv:VR (ghB Bx) w s u):VR G w (s.shift k) u:=by
  induction hv with
  | d h'=>rw[shift_d];exact .d (h'.keep (fun _=>Nat.zero_le _) (fun _ _ _=>rfl) (fun _ _ _ _ h=>h))
  | fl h' hc=>rw[shift_fl];exact .fl (h'.keep (fun _=>Nat.zero_le _) (fun _ _ _=>rfl) (fun _ _ _ _ h=>h)) hc
  | tp _ ht _ _=>exact absurd ht (by simp[ghB])
  | op hb=>rw[shift_op];exact .op (h _ _ hb)
  | os hb hn=>rw[shift_os];exact .os (h _ _ hb) hn
  | ag hl hk hv ih=>rw[shift_ag];exact .ag (by simpa using hl) (fun j hj=>by simp only[List.getElem_map,shift_cell];exact hk j (by simpa using hj)) (fun j hj hj'=>by simp only[List.getElem_map];exact ih j (by simpa using hj) hj')
  | tu hl hv ih=>rw[shift_tu];exact .tu (by simpa using hl) (fun j hj hj'=>by simp only[List.getElem_map];exact ih j (by simpa using hj) hj')
  | fc h' ih=>simp only[SV.shift];exact .fc ih
  | fn hl hm hv hu ih1 ih2 =>
    simp only[SV.shift,shiftS_eq]
    exact .fn (by simpa using hl) (by simpa using hm) (fun j hj hj'=>by simp only[List.getElem_map];exact ih1 j (by simpa using hj) hj') (fun j hj hj'=>by simp only[List.getElem_map];exact ih2 j (by simpa using hj) hj')
  | ls us hn hc hk hv ih =>
    simp only[SV.shift,shiftS_eq]
    exact .ls us hn (fun j hj=>absurd (hc j (by simpa using hj)).1 (Nat.not_lt_zero _)) (fun j hj=>by simp only[List.getElem_map,shift_cell];exact hk j (by simpa using hj)) (fun j hj=>by simp only[List.getElem_map];exact ih j (by simpa using hj))
  | mv hb=>exact absurd hb (by simp[ghB])
  | iv hb=>exact absurd hb (by simp[ghB])
  | sk hb hn hc hr=>simp only[SV.shift];exact .sk (h _ _ hb) hn hc hr
def OwnB (Bx:Nat→Option Nat) (lo:Nat) (w:World) (b:Nat) (cs:List SV):Prop :=
  ∃ (X:Nat) (us:Array Value) (T:TypeId×(Nat×Nat)),Bx b=some X∧w.heap[X]?=some (.cells us T.1 T.2)∧cs.length≤us.size∧unf T.2 us.size∧lo≤X∧∀ j (h:j<cs.length) (h':j<us.size),(cs[j]).cell=true∧VR (ghB Bx) w cs[j] us[j]
def FCall (P:Program) (gl:Nat→Option D) (f:FuncId) (args:List D) (r:SV) (K:Nat) (B:Nat→Option (List SV)):Prop :=
  FnOk P f ∧
  ∀ (m:Nat→Nat) (w:World) (vals:List Value),(∀ B,w.heap.size≤B→m B=0)→GOK gl m w→vals.length=args.length→(∀ j (h:j<args.length) (h':j<vals.length),PV m w args[j] vals[j]) →
    Calls P f vals.toArray w fun e w'=>∃ u Bx,e=.returned u∧VR (ghB Bx) w' r u∧(∀ b X,Bx b=some X→b<K)∧(∀ b cs,B b=some cs→OwnB Bx w.heap.size w' b cs) ∧
      (∀ b b' X,B b≠none→B b'≠none→Bx b=some X→Bx b'=some X→b=b')∧Below w.heap.size w w'
def addS (S:St) (K:Nat) (B:Nat→Option (List SV)):St :=
  { S with B:=fun x=>if x<S.nx then S.B x else if x<S.nx+K then (B (x - S.nx)).map (·.map (SV.shift S.nx)) else none,nx:=S.nx+K }
@[simp] theorem addS_n (S:St) (K:Nat) (B:Nat→Option (List SV)):(addS S K B).n=S.n:=(rfl)
@[simp] theorem addS_md (S:St) (K:Nat) (B:Nat→Option (List SV)):(addS S K B).md=S.md:=(rfl)
@[simp] theorem addS_gl (S:St) (K:Nat) (B:Nat→Option (List SV)):(addS S K B).gl=S.gl:=(rfl)
@[simp] theorem addS_nx (S:St) (K:Nat) (B:Nat→Option (List SV)):(addS S K B).nx=S.nx+K:=(rfl)
@[simp] theorem addS_B (S:St) (K:Nat) (B:Nat→Option (List SV)) (x:Nat):(addS S K B).B x=if x<S.nx then S.B x else if x<S.nx+K then (B (x - S.nx)).map (·.map (SV.shift S.nx)) else none:=(rfl)
theorem addS_keeps (S:St) (K:Nat) (B:Nat→Option (List SV)):Keeps S (addS S K B):=⟨rfl,rfl,rfl,Nat.le_add_right _ _⟩
section
variable {P:Program}{E:Env}{S:St}
theorem frzM_new {m0:Nat→Nat}{w0:World}{G:Gh}{F:Nat→Prop}{a:Act}{w:World} (h:Rel m0 w0 G E S F a w):∀ B,w.heap.size≤B→frzM S G B=0:=fun B hB=>(frzM_low h (.inr hB)).trans (h.new B hB)
theorem frzM_gok {m0:Nat→Nat}{w0:World}{G:Gh}{F:Nat→Prop}{a:Act}{w:World} (h:Rel m0 w0 G E S F a w):GOK S.gl (frzM S G) w :=
  ⟨fun g y hg=>(h.glob g y hg).keep (frzM_le h) (fun _ _ _=>rfl) (fun _ _ _ _ h=>h),fun hg=>frzM_ok h hg⟩
theorem called_same {m0:Nat→Nat}{w0:World}{G:Gh}{F:Nat→Prop}{a:Act}{w w':World} (hr:Rel m0 w0 G E S F a w) (hb:Below w.heap.size w w'):Rel m0 w0 G E S F a w'∧Fut G w G w' :=
  hr.called (m':=G.mark) (fun _ _=>rfl) (fun B hB=>hr.new B (Nat.le_trans hb.size hB)) (fun _ B hB hpos=>by rw[hr.new B hB] at hpos;exact absurd hpos (Nat.lt_irrefl _)) hb
theorem LCall.ofP {f:FuncId}{ss:List SV}{ds:List D}{x:Value} (h:PCall P S.gl f ds (.v x)) {k:Nat} (hd:mapO (frz S.B k) ss=some ds):LCall P f ss S (.d (.v x)) S:=by
  refine⟨h.1,Keeps.refl S,fun m0 w0 G E F a w vals hr hF hl hv=>?_⟩
  obtain⟨d1,d2⟩:=mapO_get hd
  refine (h.2 (frzM S G) w vals (frzM_new hr) (frzM_gok hr) (by omega) (fun j hj hj'=>frz_ok hr (d2 j (by omega) hj) (hv j (by omega) hj'))).mono ?_
  rintro e w' ⟨u,m',rfl,h1,h2,h3,h4,_⟩
  obtain⟨k1,k2⟩:=called_same hr h4
  cases h1 with
  | v hx=>exact⟨x,G,rfl, .d (.v hx),k1.less (fun b hb=>hb.1),k2⟩
theorem LCall.ofF {f:FuncId}{ss:List SV}{ds:List D}{r:SV}{K:Nat}{B:Nat→Option (List SV)} (h:FCall P S.gl f ds r K B) {k:Nat} (hd:mapO (frz S.B k) ss=some ds):LCall P f ss S (r.shift S.nx) (addS S K B):=by
  refine⟨h.1,addS_keeps S K B,fun m0 w0 G E F a w vals hr hF hl hv=>?_⟩
  obtain⟨d1,d2⟩:=mapO_get hd
  refine (h.2 (frzM S G) w vals (frzM_new hr) (frzM_gok hr) (by omega) (fun j hj hj'=>frz_ok hr (d2 j (by omega) hj) (hv j (by omega) hj'))).mono ?_
  rintro e w' ⟨u,Bx,rfl,hu,hBx,hB,hinj,hbel⟩
  obtain⟨k1,k2⟩:=called_same hr hbel
  have hold:∀ b X,G.box b=some X→b<S.nx:=fun b X hb=>by
    rcases Nat.lt_or_ge b S.nx with h1 | h1
    · exact h1
    · rw[(hr.fresh b (hF b h1)).1] at hb;cases hb
  let G2:Gh:={ G with box:=fun b=>if b<S.nx then G.box b else Bx (b - S.nx) }
  have g2new:∀ b X,Bx b=some X→G2.box (S.nx+b)=some X:=fun b X hb=>by
    show (if S.nx+b<S.nx then _ else _)=_
    rw[if_neg (by omega),Nat.add_sub_cancel_left];exact hb
  have g2old:∀ b X,G.box b=some X→G2.box b=some X:=fun b X hb=>by
    show (if b<S.nx then _ else _)=_
    rw[if_pos (hold b X hb)];exact hb
  have f:Fut G w' G2 w':=Fut.mk' (.refl w') g2old (fun i B v k cap ht=>⟨B,v,k,cap,ht,Nat.le_refl _,fun _=>⟨rfl,rfl,rfl,rfl⟩⟩) (fun _=>Nat.le_refl _) (fun _ _ _=>rfl) (fun _ _ h=>h)
  have oldO:∀ b X,G.obj b=some X→b<S.nx:=fun b X hb=>by
    rcases Nat.lt_or_ge b S.nx with h1 | h1
    · exact h1
    · rw[hr.more.ofresh b (hF b h1)] at hb;cases hb
  have oldB:∀ b cs,(addS S K B).B b=some cs→b<S.nx→S.B b=some cs:=fun b cs hb hlt=>by simpa[hlt] using hb
  have newB:∀ b cs,(addS S K B).B b=some cs→¬ b<S.nx→∃ b' cs',b=S.nx+b'∧B b'=some cs'∧cs=cs'.map (SV.shift S.nx):=fun b cs hb hlt=>by
    simp only[addS_B,if_neg hlt] at hb
    split at hb
    · simp only[Option.map_eq_some_iff] at hb
      obtain⟨cs',h1,h2⟩:=hb
      exact⟨b - S.nx,cs',by omega,h1,h2.symm⟩
    · cases hb
  have oldX:∀ b X,b<S.nx→(addS S K B).B b≠none→G2.box b=some X→X<w.heap.size:=fun b X hlt hb hg=>by
    obtain⟨cs,hcs⟩:=Option.ne_none_iff_exists'.1 hb
    have hgb:G.box b=some X:=by have:=hg;simp only[G2,if_pos hlt] at this;exact this
    obtain⟨Y,us,T,g1,g2,_⟩:=hr.box b cs (oldB b cs hcs hlt) (hr.boxOf (oldB b cs hcs hlt) hgb)
    have:G2.box b=some Y:=g2old b Y g1
    rw[hg] at this;cases this
    exact lt_of_heap g2
  have newX:∀ b X,¬ b<S.nx→(addS S K B).B b≠none→G2.box b=some X→w.heap.size≤X:=fun b X hlt hb hg=>by
    obtain⟨cs,hcs⟩:=Option.ne_none_iff_exists'.1 hb
    obtain⟨b',cs',rfl,h1,h2⟩:=newB b cs hcs hlt
    obtain⟨Y,us,T,g1,g2,g3,g4,g5,_⟩:=hB b' cs' h1
    have:=g2new b' Y g1
    rw[hg] at this;cases this
    exact g5
  refine⟨u,G2,rfl,hu.shiftTo g2new,⟨fun k s hk=>(k1.env k s hk).fut f,k1.size,k1.few,fun b cs hb ho=>?_,fun b b' X hb hb' e1 e2=>?_,k1.tip,k1.tinj,k1.tlt,fun i b X v k c hi hb e=>?_,fun b hb=>?_,k1.new,k1.low,k1.below,k1.defers,k1.glob,k1.more.keep f (.refl w') (fun b cs X hb ho=>oldB b cs hb (oldO b X ho)) rfl (fun b X ho=>if_pos (oldO b X ho)) rfl (fun _ hb=>hb.1) rfl⟩,k2.trans f⟩
  · by_cases hlt:b<S.nx
    · obtain⟨X,us,T,g1,g2,g3,g4,g5,gu0,g6⟩:=k1.box b cs (oldB b cs hb hlt) ho
      exact⟨X,us,T,g2old b X g1,g2,g3,g4,g5,gu0,fun j hj hj'=>⟨(g6 j hj hj').1,(g6 j hj hj').2.fut f⟩⟩
    · obtain⟨b',cs',rfl,h1,rfl⟩:=newB b cs hb hlt
      obtain⟨X,us,T,g1,g2,g3,gu0,g5,g6⟩:=hB b' cs' h1
      refine⟨X,us,T,g2new b' X g1,g2,by simpa using g3,hr.new X g5,Nat.le_trans hr.below.size g5,gu0,fun j hj hj'=>?_⟩
      have hj2:j<cs'.length:=by simpa using hj
      simp only[List.getElem_map,shift_cell]
      exact⟨(g6 j hj2 hj').1,(g6 j hj2 hj').2.shiftTo g2new⟩
  · by_cases hlt:b<S.nx
    · by_cases hlt':b'<S.nx
      · have e3:G.box b=some X:=by have:=e1;simp only[G2,if_pos hlt] at this;exact this
        have e4:G.box b'=some X:=by have:=e2;simp only[G2,if_pos hlt'] at this;exact this
        have nb:∀ b,b<S.nx→(addS S K B).B b≠none→S.B b≠none:=fun b hl hn=>by simpa[hl] using hn
        exact hr.inj b b' X (nb b hlt hb) (nb b' hlt' hb') e3 e4
      · have:=oldX b X hlt hb e1;have:=newX b' X hlt' hb' e2;omega
    · by_cases hlt':b'<S.nx
      · have:=oldX b' X hlt' hb' e2;have:=newX b X hlt hb e1;omega
      · obtain⟨cs,hcs⟩:=Option.ne_none_iff_exists'.1 hb
        obtain⟨cs2,hcs2⟩:=Option.ne_none_iff_exists'.1 hb'
        obtain⟨c,cs',rfl,h1,_⟩:=newB b cs hcs hlt
        obtain⟨c',cs2',rfl,h2,_⟩:=newB b' cs2 hcs2 hlt'
        have e3:Bx c=some X:=by have:=e1;simp only[G2,if_neg hlt,Nat.add_sub_cancel_left] at this;exact this
        have e4:Bx c'=some X:=by have:=e2;simp only[G2,if_neg hlt',Nat.add_sub_cancel_left] at this;exact this
        rw[hinj c c' X (by rw[h1];simp) (by rw[h2];simp) e3 e4]
  · by_cases hlt:b<S.nx
    · have e3:G.box b=some X:=by have:=e;simp only[G2,if_pos hlt] at this;exact this
      exact hr.tbox i b X v k c hi (by simpa[hlt] using hb) e3
    · have:=newX b X hlt hb e
      have:=hr.tlt i X v k c hi
      omega
  · obtain⟨h1,h2⟩:=hr.fresh b hb.1
    refine⟨?_,h2⟩
    have hnb:=hb.2
    simp only[addS_nx] at hnb
    show (if b<S.nx then G.box b else Bx (b - S.nx))=none
    split
    · exact h1
    · cases hx:Bx (b - S.nx) with
      | none=>rfl
      | some X=>have:=hBx _ _ hx;omega
def frzv (B:Nat→Option (List SV)):Nat→SV→Option D
  | 0,_=>none
  | k+1,s=>match s with
    | .d (.v x)=>some (.v x)
    | .fl [] 0=>some (.ps [] 0)
    | .op b off=>match B b with
      | some cs=>(mapO (frzv B k) cs).map fun ds=>.pp ds off
      | none=>none
    | .os b off n=>match B b with
      | some cs=>(mapO (frzv B k) cs).map fun ds=>.ps (ds.drop off) n
      | none=>none
    | .sk b n _=>match B b with
      | some cs=>(mapO (frzv B k) cs).map fun ds=>.ps ds n
      | none=>none
    | .ag cs=>(mapO (frzv B k) cs).map .agg
    | _=>none
open Classical in
noncomputable def frzV (S:St) (G:Gh) (X:Nat):Nat:=if h:∃ b cs,S.B b=some cs∧G.box b=some X∧G.obj b=none then h.choose_spec.choose.length else 0
theorem frzV_cases (S:St) (G:Gh) (X:Nat):(∃ b cs,S.B b=some cs∧G.box b=some X∧G.obj b=none∧frzV S G X=cs.length)∨((∀ b cs,S.B b=some cs→G.box b=some X→G.obj b≠none)∧frzV S G X=0):=by
  unfold frzV
  split
  · rename_i hx
    obtain⟨h1,h2,h3⟩:=hx.choose_spec.choose_spec
    exact .inl ⟨_,_,h1,h2,h3,rfl⟩
  · rename_i hx
    exact .inr ⟨fun b cs h1 h2 h3=>hx ⟨b,cs,h1,h2,h3⟩,rfl⟩
theorem frzV_box {m0:Nat→Nat}{w0:World}{G:Gh}{F:Nat→Prop}{a:Act}{w:World} (h:Rel m0 w0 G E S F a w) {b X:Nat}{cs:List SV} (hb:S.B b=some cs) (hg:G.box b=some X):frzV S G X=cs.length:=by
  rcases frzV_cases S G X with ⟨b',cs',h1,h2,h3,h4⟩ | ⟨h1,_⟩
  · obtain rfl:b'=b:=h.inj _ _ X (by rw[h1];simp) (by rw[hb];simp) h2 hg
    rw[hb] at h1
    simp only[Option.some.injEq] at h1
    rw[h4,h1]
  · exact absurd (h.boxOf hb hg) (h1 b cs hb hg)
theorem frzV_new {m0:Nat→Nat}{w0:World}{G:Gh}{F:Nat→Prop}{a:Act}{w:World} (h:Rel m0 w0 G E S F a w) (X:Nat) (hX:w.heap.size≤X):frzV S G X=0:=by
  rcases frzV_cases S G X with ⟨b,cs,h1,h2,h3,h4⟩ | ⟨_,h1⟩
  · obtain⟨B,us,T,g1,g2,_⟩:=h.box _ _ h1 h3
    rw[h2] at g1;cases g1
    have:=lt_of_heap g2;omega
  · exact h1
theorem frzV_ok {m0:Nat→Nat}{w0:World}{G:Gh}{F:Nat→Prop}{a:Act}{w:World} (h:Rel m0 w0 G E S F a w):MOK (frzV S G) w:=by
  intro X hX
  rcases frzV_cases S G X with ⟨b,cs,h1,h2,h3,h4⟩ | ⟨_,h1⟩
  · obtain⟨B,us,T,g1,g2,g3,g4,g5,gu,_⟩:=h.box _ _ h1 h3
    rw[h2] at g1;cases g1
    rw[show T.2=(0,0) from gu] at g2
    exact .inl ⟨us,T.1,g2⟩
  · omega
theorem frzv_cell {B:Nat→Option (List SV)}{k:Nat}{s:SV}{x:D} (h:frzv B k s=some x) (hc:s.cell=true):x.cell=true:=by
  cases k with
  | zero=>cases h
  | succ k =>
    unfold frzv at h
    split at h
    · simp only[Option.some.injEq] at h;subst h;exact hc
    · simp only[Option.some.injEq] at h;subst h;rfl
    · split at h
      · simp only[Option.map_eq_some_iff] at h;obtain⟨_,_,rfl⟩:=h;rfl
      · cases h
    · split at h
      · simp only[Option.map_eq_some_iff] at h;obtain⟨_,_,rfl⟩:=h;rfl
      · cases h
    · split at h
      · simp only[Option.map_eq_some_iff] at h;obtain⟨_,_,rfl⟩:=h;rfl
      · cases h
    · simp[SV.cell] at hc
    · cases h
theorem frzv_ok {m0:Nat→Nat}{w0:World}{G:Gh}{F:Nat→Prop}{a:Act}{w:World} (h:Rel m0 w0 G E S F a w):∀ {k:Nat}{s:SV}{x:D}{u:Value},frzv S.B k s=some x→VR G w s u→PV (frzV S G) w x u
  | 0,_,_,_,hf,_=>by cases hf
  | k+1,s,x,u,hf,hv=>by
    have cells:∀ {b B0:Nat} {cs:List SV} {ds:List D},S.B b=some cs→G.box b=some B0→mapO (frzv S.B k) cs=some ds→∃ us:Nat→Value,ds.length=cs.length ∧
        (∀ j,j<ds.length→j<frzV S G B0∧w.cell? ⟨B0,j,none⟩=some (us j))∧(∀ j (hj:j<ds.length),(ds[j]).cell=true)∧∀ j (hj:j<ds.length),PV (frzV S G) w ds[j] (us j):=by
      intro b B0 cs ds hb hg0 hm
      obtain⟨h1,h2⟩:=mapO_get hm
      obtain⟨B,us,T,g1,g2,g3,g4,g5,gu0,g6⟩:=h.box b cs hb (h.boxOf hb hg0)
      obtain rfl:B0=B:=Option.some.inj (hg0.symm.trans g1)
      refine⟨fun j=>us.getD j undef,h1,fun j hj=>⟨by rw[frzV_box h hb hg0];omega,?_⟩,fun j hj=>frzv_cell (h2 j (by omega) hj) (g6 j (by omega) (by omega)).1,fun j hj=>?_⟩
      · rw[cell_of_heap g2,Array.getElem?_eq_getElem (by omega)]
        simp[Array.getD_eq_getD_getElem?,Array.getElem?_eq_getElem (show j<us.size by omega)]
      · have:=(g6 j (by omega) (by omega)).2
        have e:us.getD j undef=us[j]'(by omega):=by simp[Array.getD_eq_getD_getElem?,Array.getElem?_eq_getElem (show j<us.size by omega)]
        show PV _ _ _ (us.getD j undef)
        rw[e]
        exact frzv_ok h (h2 j (by omega) hj) this
    unfold frzv at hf
    split at hf
    · simp only[Option.some.injEq] at hf;subst hf
      obtain⟨rfl,hp⟩:=hv.v_inv
      exact .v hp
    · simp only[Option.some.injEq] at hf;subst hf
      cases hv with
      | fl hp hc=>cases hp with
        | nil=>exact .nil
        | pz hs=>exact .pz hs
        | ps us hn hcc hk hv=>exact .ps us hn (fun j hj=>by simp at hj) (fun j hj=>by simp at hj) (fun j hj=>by simp at hj)
    · rename_i b off
      split at hf
      · rename_i cs hb
        simp only[Option.map_eq_some_iff] at hf
        obtain⟨ds,hm,rfl⟩:=hf
        obtain⟨B,hg,rfl⟩:=hv.op_inv
        obtain⟨us,g2,g3,g4,g5⟩:=cells hb hg hm
        have:=PV.pp (m:=frzV S G) (w:=w) (cs:=ds) (off:=off) (o:=0) us (fun j hj=>by rw[Nat.zero_add];exact g3 j hj) g4 g5
        rw[Nat.zero_add] at this
        exact this
      · cases hf
    · rename_i b off n
      split at hf
      · rename_i cs hb
        simp only[Option.map_eq_some_iff] at hf
        obtain⟨ds,hm,rfl⟩:=hf
        obtain⟨B,c,hg,hn,rfl⟩:=hv.os_inv
        obtain⟨us,g2,g3,g4,g5⟩:=cells hb hg hm
        have:=PV.part (l:=off) (k:=ds.length) (n':=n) (c':=c) (PV.ps (m:=frzV S G) (w:=w) (cs:=ds) (n:=0) (c:=0) (o:=0) us (Nat.le_refl _) (fun j hj=>by rw[Nat.zero_add];exact g3 j hj) g4 g5) hn
        rw[List.take_of_length_le (by simp),Nat.zero_add] at this
        exact this
      · cases hf
    · rename_i b n sz
      split at hf
      · rename_i cs hb
        simp only[Option.map_eq_some_iff] at hf
        obtain⟨ds,hm,rfl⟩:=hf
        obtain⟨B,c,_,_,_,hg,hn,rfl,_,_⟩:=hv.sk_inv
        obtain⟨us,g2,g3,g4,g5⟩:=cells hb hg hm
        exact PV.ps (m:=frzV S G) (w:=w) (cs:=ds) (n:=n) (c:=c) (o:=0) us hn (fun j hj=>by rw[Nat.zero_add];exact g3 j hj) g4 g5
      · cases hf
    · simp only[Option.map_eq_some_iff] at hf
      obtain⟨ds,hm,rfl⟩:=hf
      obtain⟨h1,h2⟩:=mapO_get hm
      cases hv with
      | ag hl hk hv=>exact .agg (by omega) (fun j hj=>frzv_cell (h2 j (by omega) hj) (hk j (by omega))) (fun j hj hj'=>frzv_ok h (h2 j (by omega) hj) (hv j (by omega) hj'))
    · cases hf
  termination_by k=>k
theorem LCall.ofFc {f:FuncId}{ss:List SV}{ds:List D}{r:SV}{K:Nat}{B:Nat→Option (List SV)}{gl:Nat→Option D} (hgl:∀ g,g≠cleanAt→gl g=none) (hcl:∀ x,gl cleanAt=some x→x=.pp [] 0) (h:FCall P gl f ds r K B) {k:Nat} (hd:mapO (frzv S.B k) ss=some ds):LCall P f ss S (r.shift S.nx) (addS S K B):=by
  refine⟨h.1,addS_keeps S K B,fun m0 w0 G E F a w vals hr hF hl hv=>?_⟩
  obtain⟨d1,d2⟩:=mapO_get hd
  have hgok:GOK gl (frzV S G) w:=by
    refine⟨fun g y hg=>?_,fun _=>frzV_ok hr⟩
    by_cases e:g=cleanAt
    · subst e
      rw[hcl y hg]
      exact PV.pp (B:=cleanAt) (o:=0) (off:=0) (cs:=[]) (fun _=>undef) (fun j hj=>absurd hj (Nat.not_lt_zero j)) (fun j hj=>absurd hj (Nat.not_lt_zero j)) (fun j hj=>absurd hj (Nat.not_lt_zero j))
    · rw[hgl g e] at hg;cases hg
  refine (h.2 (frzV S G) w vals (frzV_new hr) hgok (by omega) (fun j hj hj'=>frzv_ok hr (d2 j (by omega) hj) (hv j (by omega) hj'))).mono ?_
  rintro e w' ⟨u,Bx,rfl,hu,hBx,hB,hinj,hbel⟩
  obtain⟨k1,k2⟩:=called_same hr hbel
  have hold:∀ b X,G.box b=some X→b<S.nx:=fun b X hb=>by
    rcases Nat.lt_or_ge b S.nx with h1 | h1
    · exact h1
    · rw[(hr.fresh b (hF b h1)).1] at hb;cases hb
  let G2:Gh:={ G with box:=fun b=>if b<S.nx then G.box b else Bx (b - S.nx) }
  have g2new:∀ b X,Bx b=some X→G2.box (S.nx+b)=some X:=fun b X hb=>by
    show (if S.nx+b<S.nx then _ else _)=_
    rw[if_neg (by omega),Nat.add_sub_cancel_left];exact hb
  have g2old:∀ b X,G.box b=some X→G2.box b=some X:=fun b X hb=>by
    show (if b<S.nx then _ else _)=_
    rw[if_pos (hold b X hb)];exact hb
  have f:Fut G w' G2 w':=Fut.mk' (.refl w') g2old (fun i B v k cap ht=>⟨B,v,k,cap,ht,Nat.le_refl _,fun _=>⟨rfl,rfl,rfl,rfl⟩⟩) (fun _=>Nat.le_refl _) (fun _ _ _=>rfl) (fun _ _ h=>h)
  have oldO:∀ b X,G.obj b=some X→b<S.nx:=fun b X hb=>by
    rcases Nat.lt_or_ge b S.nx with h1 | h1
    · exact h1
    · rw[hr.more.ofresh b (hF b h1)] at hb;cases hb
  have oldB:∀ b cs,(addS S K B).B b=some cs→b<S.nx→S.B b=some cs:=fun b cs hb hlt=>by simpa[hlt] using hb
  have newB:∀ b cs,(addS S K B).B b=some cs→¬ b<S.nx→∃ b' cs',b=S.nx+b'∧B b'=some cs'∧cs=cs'.map (SV.shift S.nx):=fun b cs hb hlt=>by
    simp only[addS_B,if_neg hlt] at hb
    split at hb
    · simp only[Option.map_eq_some_iff] at hb
      obtain⟨cs',h1,h2⟩:=hb
      exact⟨b - S.nx,cs',by omega,h1,h2.symm⟩
    · cases hb
  have oldX:∀ b X,b<S.nx→(addS S K B).B b≠none→G2.box b=some X→X<w.heap.size:=fun b X hlt hb hg=>by
    obtain⟨cs,hcs⟩:=Option.ne_none_iff_exists'.1 hb
    have hgb:G.box b=some X:=by have:=hg;simp only[G2,if_pos hlt] at this;exact this
    obtain⟨Y,us,T,g1,g2,_⟩:=hr.box b cs (oldB b cs hcs hlt) (hr.boxOf (oldB b cs hcs hlt) hgb)
    have:G2.box b=some Y:=g2old b Y g1
    rw[hg] at this;cases this
    exact lt_of_heap g2
  have newX:∀ b X,¬ b<S.nx→(addS S K B).B b≠none→G2.box b=some X→w.heap.size≤X:=fun b X hlt hb hg=>by
    obtain⟨cs,hcs⟩:=Option.ne_none_iff_exists'.1 hb
    obtain⟨b',cs',rfl,h1,h2⟩:=newB b cs hcs hlt
    obtain⟨Y,us,T,g1,g2,g3,g4,g5,_⟩:=hB b' cs' h1
    have:=g2new b' Y g1
    rw[hg] at this;cases this
    exact g5
  refine⟨u,G2,rfl,hu.shiftTo g2new,⟨fun k s hk=>(k1.env k s hk).fut f,k1.size,k1.few,fun b cs hb ho=>?_,fun b b' X hb hb' e1 e2=>?_,k1.tip,k1.tinj,k1.tlt,fun i b X v k c hi hb e=>?_,fun b hb=>?_,k1.new,k1.low,k1.below,k1.defers,k1.glob,k1.more.keep f (.refl w') (fun b cs X hb ho=>oldB b cs hb (oldO b X ho)) rfl (fun b X ho=>if_pos (oldO b X ho)) rfl (fun _ hb=>hb.1) rfl⟩,k2.trans f⟩
  · by_cases hlt:b<S.nx
    · obtain⟨X,us,T,g1,g2,g3,g4,g5,gu0,g6⟩:=k1.box b cs (oldB b cs hb hlt) ho
      exact⟨X,us,T,g2old b X g1,g2,g3,g4,g5,gu0,fun j hj hj'=>⟨(g6 j hj hj').1,(g6 j hj hj').2.fut f⟩⟩
    · obtain⟨b',cs',rfl,h1,rfl⟩:=newB b cs hb hlt
      obtain⟨X,us,T,g1,g2,g3,gu0,g5,g6⟩:=hB b' cs' h1
      refine⟨X,us,T,g2new b' X g1,g2,by simpa using g3,hr.new X g5,Nat.le_trans hr.below.size g5,gu0,fun j hj hj'=>?_⟩
      have hj2:j<cs'.length:=by simpa using hj
      simp only[List.getElem_map,shift_cell]
      exact⟨(g6 j hj2 hj').1,(g6 j hj2 hj').2.shiftTo g2new⟩
  · by_cases hlt:b<S.nx
    · by_cases hlt':b'<S.nx
      · have e3:G.box b=some X:=by have:=e1;simp only[G2,if_pos hlt] at this;exact this
        have e4:G.box b'=some X:=by have:=e2;simp only[G2,if_pos hlt'] at this;exact this
        have nb:∀ b,b<S.nx→(addS S K B).B b≠none→S.B b≠none:=fun b hl hn=>by simpa[hl] using hn
        exact hr.inj b b' X (nb b hlt hb) (nb b' hlt' hb') e3 e4
      · have:=oldX b X hlt hb e1;have:=newX b' X hlt' hb' e2;omega
    · by_cases hlt':b'<S.nx
      · have:=oldX b' X hlt' hb' e2;have:=newX b X hlt hb e1;omega
      · obtain⟨cs,hcs⟩:=Option.ne_none_iff_exists'.1 hb
        obtain⟨cs2,hcs2⟩:=Option.ne_none_iff_exists'.1 hb'
        obtain⟨c,cs',rfl,h1,_⟩:=newB b cs hcs hlt
        obtain⟨c',cs2',rfl,h2,_⟩:=newB b' cs2 hcs2 hlt'
        have e3:Bx c=some X:=by have:=e1;simp only[G2,if_neg hlt,Nat.add_sub_cancel_left] at this;exact this
        have e4:Bx c'=some X:=by have:=e2;simp only[G2,if_neg hlt',Nat.add_sub_cancel_left] at this;exact this
        rw[hinj c c' X (by rw[h1];simp) (by rw[h2];simp) e3 e4]
  · by_cases hlt:b<S.nx
    · have e3:G.box b=some X:=by have:=e;simp only[G2,if_pos hlt] at this;exact this
      exact hr.tbox i b X v k c hi (by simpa[hlt] using hb) e3
    · have:=newX b X hlt hb e
      have:=hr.tlt i X v k c hi
      omega
  · obtain⟨h1,h2⟩:=hr.fresh b hb.1
    refine⟨?_,h2⟩
    have hnb:=hb.2
    simp only[addS_nx] at hnb
    show (if b<S.nx then G.box b else Bx (b - S.nx))=none
    split
    · exact h1
    · cases hx:Bx (b - S.nx) with
      | none=>rfl
      | some X=>have:=hBx _ _ hx;omega
end
end Go.Sh
namespace Go.Sh
open Go.RowKit (Below)
inductive Like (T:Nat→Option (Nat×Nat)) (M:List (Nat×Nat×Bool)):SV→SV→Prop
  | d (x:Value):Like T M (.d (.v x)) (.d (.v x))
  | fl:Like T M (.fl [] 0) (.fl [] 0)
  | tp {i k n sz:Nat} {cs:List D} (hm:(k,i,true)∈M) (hn:0<n) (ht:T i=some (n,sz)):Like T M (.tp i 0 cs n) (.os k 0 n)
  | os {b k off n:Nat} (hm:(k,b,false)∈M):Like T M (.os b off n) (.os k off n)
  | op {b k off:Nat} (hm:(k,b,false)∈M):Like T M (.op b off) (.op k off)
  | sk {b k n sz:Nat} (hm:(k,b,false)∈M):Like T M (.sk b n sz) (.sk k n sz)
  | ag {cs cs':List SV} (hl:cs'.length=cs.length) (h:∀ j (h:j<cs.length) (h':j<cs'.length),Like T M cs[j] cs'[j]):Like T M (.ag cs) (.ag cs')
  | tu {cs cs':List SV} (hl:cs'.length=cs.length) (h:∀ j (h:j<cs.length) (h':j<cs'.length),Like T M cs[j] cs'[j]):Like T M (.tu cs) (.tu cs')
theorem Like.cell {T:Nat→Option (Nat×Nat)}{M:List (Nat×Nat×Bool)}{s t:SV} (h:Like T M s t):t.cell=s.cell:=by cases h<;>rfl
theorem nodup_inj {α:Type}{l:List α} (h:l.Nodup) {i j:Nat} (hi:i<l.length) (hj:j<l.length) (e:l[i]=l[j]):i=j:=by
  have hp:=List.pairwise_iff_getElem.1 h
  rcases Nat.lt_trichotomy i j with h1 | h1 | h1
  · exact absurd e (hp i j hi hj h1)
  · exact h1
  · exact absurd e.symm (hp j i hj hi h1)
inductive Tip (i:Nat) (cs:List D) (n:Nat):SV→Prop
  | here:Tip i cs n (.tp i 0 cs n)
  | ag {l:List SV} {j:Nat} (hj:j<l.length) (h:Tip i cs n l[j]):Tip i cs n (.ag l)
  | tu {l:List SV} {j:Nat} (hj:j<l.length) (h:Tip i cs n l[j]):Tip i cs n (.tu l)
theorem Tip.vr {G:Gh}{w:World}{i n:Nat}{cs:List D}{s:SV} (h:Tip i cs n s):∀ {u:Value},VR G w s u→∃ u',VR G w (.tp i 0 cs n) u':=by
  induction h with
  | here=>intro u hu;exact⟨u,hu⟩
  | ag hj h ih =>
    intro u hu
    cases hu with
    | ag hl hk hv=>exact ih (hv _ hj (by omega))
  | tu hj h ih =>
    intro u hu
    cases hu with
    | tu hl hv=>exact ih (hv _ hj (by omega))
def bxOf (G:Gh) (M:List (Nat×Nat×Bool)) (k:Nat):Option Nat :=
  match M.find? (fun p=>p.1 == k) with
  | some (_,b,false)=>G.box b
  | some (_,i,true)=>(G.tip i).map (·.1)
  | none=>none
structure Fine (M:List (Nat×Nat×Bool)) (K:Nat):Prop where
  new:(M.map (·.1)).Nodup
  old:(M.map (·.2)).Nodup
  lt:∀ p∈M,p.1<K
theorem find_mem {M:List (Nat×Nat×Bool)} (hd:(M.map (·.1)).Nodup) {p:Nat×Nat×Bool} (hp:p∈M):M.find? (fun q=>q.1 == p.1)=some p:=by
  induction M with
  | nil=>simp at hp
  | cons q M ih =>
    simp only[List.map_cons,List.nodup_cons] at hd
    rcases List.mem_cons.1 hp with rfl | hp
    · simp
    · have:q.1≠p.1:=fun e=>hd.1 (e▸List.mem_map.2 ⟨p,hp,rfl⟩)
      rw[List.find?_cons_of_neg (by simpa using this)]
      exact ih hd.2 hp
theorem bx_box {G:Gh}{M:List (Nat×Nat×Bool)}{K k b:Nat} (hf:Fine M K) (h:(k,b,false)∈M):bxOf G M k=G.box b:=by
  have:=find_mem hf.new h
  unfold bxOf;rw[this]
theorem bx_tip {G:Gh}{M:List (Nat×Nat×Bool)}{K k i:Nat} (hf:Fine M K) (h:(k,i,true)∈M):bxOf G M k=(G.tip i).map (·.1):=by
  have:=find_mem hf.new h
  unfold bxOf;rw[this]
section
variable {P:Program}{E:Env}{S:St}
theorem tip_inv {m0:Nat→Nat}{w0:World}{G:Gh}{F:Nat→Prop}{a:Act}{w:World} (h:Rel m0 w0 G E S F a w) {i n sz:Nat}{cs:List D}{u:Value} (hn:0<n) (hT:S.T i=some (n,sz)) (hu:VR G w (.tp i 0 cs n) u) :
    ∃ X c us T fr,G.tip i=some (X,0,n,c)∧u=.slice (some ⟨X,0,none⟩) n c∧n≤c∧w.heap[X]?=some (.cells us T fr)∧unf fr us.size∧w0.heap.size≤X∧cs.length≤us.size∧∀ j (h:j<cs.length) (h':j<us.size),(cs[j]).cell=true∧PV G.mark w cs[j] us[j]:=by
  obtain⟨B,v,us,T,cap,fr,g1,g2,g3,g4,g5,g6,g7,g8,g9⟩:=h.tip i n sz hT
  cases hu with
  | tp hp ht hq he =>
    rename_i Y o c B' v' k' cap'
    rw[g1] at ht
    simp only[Option.some.injEq,Prod.mk.injEq] at ht
    obtain⟨rfl,rfl,rfl,rfl⟩:=ht
    obtain⟨e1,e2,e3,sz',e4,e5,e6⟩:=he (by omega)
    subst e1
    obtain⟨us',hl,hc,hv⟩:=hp.cells'
    have hnc:n≤c:=by
      obtain⟨_,_,e,hle⟩:=hp.slice_inv
      cases e;exact hle
    have hv0:v=0:=by omega
    subst hv0
    have ho:o=0:=by have:=e4 (by omega);simpa using this
    subst ho
    have hcap:cap=c:=by omega
    subst hcap
    have hcell:∀ j (hj:j<us'.length),us[j]?=some us'[j]:=fun j hj=>by
      have:=(hc j us'[j] (List.getElem?_eq_getElem hj)).2
      rw[Nat.zero_add,cell_of_heap g2] at this
      exact this
    refine⟨B,cap,us,T,fr,g1,rfl,hnc,g2,g3,g4,?_,fun j hj hj'=>?_⟩
    · rcases Nat.eq_zero_or_pos cs.length with h0 | h0
      · omega
      · have:=hcell (cs.length - 1) (by omega)
        have:=(Array.getElem?_eq_some_iff.1 this).1
        omega
    · have h1:=hcell j (by omega)
      have h2:us[j]=us'[j]:=by rw[Array.getElem?_eq_getElem hj'] at h1;exact Option.some.inj h1
      rw[h2];exact hv j hj (by omega)
theorem Like.vr {m0:Nat→Nat}{w0:World}{G:Gh}{F:Nat→Prop}{a:Act}{w:World} (h:Rel m0 w0 G E S F a w) {M:List (Nat×Nat×Bool)}{K:Nat} (hf:Fine M K) {s t:SV} (hl:Like S.T M s t):∀ {u:Value},VR G w s u→VR (ghB (bxOf G M)) w t u:=by
  induction hl with
  | d x =>
    intro u hu
    cases hu with
    | d hp=>cases hp with
      | v hx=>exact .d (.v hx)
  | fl =>
    intro u hu
    cases hu with
    | fl hp hc=>cases hp with
      | nil=>exact .fl .nil hc
      | pz hs=>exact .fl (.pz hs) hc
      | ps us hn hcc hk hv=>exact .fl (.ps us hn (fun j hj=>by simp at hj) (fun j hj=>by simp at hj) (fun j hj=>by simp at hj)) hc
  | tp hm hn ht =>
    intro u hu
    obtain⟨X,c,us,T,fr,g1,rfl,g2,_⟩:=tip_inv h hn ht hu
    exact .os (by show bxOf G M _=_;rw[bx_tip hf hm,g1];rfl) g2
  | os hm =>
    intro u hu
    cases hu with
    | os hb hn=>exact .os (by show bxOf G M _=_;rw[bx_box hf hm];exact hb) hn
  | op hm =>
    intro u hu
    cases hu with
    | op hb=>exact .op (by show bxOf G M _=_;rw[bx_box hf hm];exact hb)
  | sk hm =>
    intro u hu
    cases hu with
    | sk hb hn hc hr=>exact .sk (by show bxOf G M _=_;rw[bx_box hf hm];exact hb) hn hc hr
  | ag hl h' ih =>
    intro u hu
    cases hu with
    | ag hl2 hk hv =>
      refine .ag (by omega) (fun j hj=>?_) (fun j hj hj'=>ih j (by omega) hj (hv j (by omega) hj'))
      rw[(h' j (by omega) hj).cell]
      exact hk j (by omega)
  | tu hl h' ih =>
    intro u hu
    cases hu with
    | tu hl2 hv=>exact .tu (by omega) (fun j hj hj'=>ih j (by omega) hj (hv j (by omega) hj'))
structure FEnd (S:St) (s t:SV) (M:List (Nat×Nat×Bool)) (K:Nat) (B:Nat→Option (List SV)):Prop where
  like:Like S.T M s t
  fine:Fine M K
  B:∀ k cs,B k=some cs→(∃ b cs0 l,(k,b,false)∈M∧S.B b=some (cs0++l)∧(cs0=[]→l=[])∧cs.length=cs0.length∧∀ j (h:j<cs0.length) (h':j<cs.length),Like S.T M cs0[j] cs[j]) ∨
    (∃ i n sz ds,(k,i,true)∈M∧Tip i ds n s∧0<n∧S.T i=some (n,sz)∧cs=ds.map .d∧∀ x∈ds,∃ v,x=.v v)
theorem FCall.of {gl : Nat → Option D} {md : List Nat} {f : FuncId} {fn : Func} {c : Code} {args : List D} {r : SV} {K : Nat} {B : Nat → Option (List SV)} (hf : P.funcs[f]? = some fn) (hb : fn.body = some c) (hname : (fn.name == "runtime.NumGoroutine") = false) {n : Nat} (hn : fn.ntmps = n) (hle : args.length ≤ n) (hfew : n ≤ globalsAt)
    (h:CS P c (startE gl (args.map .d)) (startS gl md n) (fun ex E S=>(ex=.normal∨ex=.ret)∧∃ s M,resS P E S fn.results.toList=some s∧FEnd S s r M K B)):FCall P gl f args r K B:=by
  refine⟨⟨fn,hf,hname,by rw[hb];rfl⟩,fun m w vals hm hg hl hv=>calls_of_wp hf hb ?_⟩
  have hsz:(vals.toArray++Array.replicate (fn.ntmps - vals.toArray.size) undef).size=n:=by simp;omega
  have hstart:=start_slots (gl:=gl) (G:=⟨fun _=>none,fun _=>none,m,fun _=>none⟩) (w:=w) (ss:=args.map .d) (vals:=vals) (n:=n) (ntmps:=n) (by simpa using hl) (by simpa using hle) (fun j hj hj'=>by
    have:(args.map SV.d)[j]=.d (args[j]'(by simpa using hj)):=by simp
    rw[this]
    exact .d (hv j (by simpa using hj) hj')) hg.1 (Array.replicate (fn.ntmps - vals.toArray.size) undef)
  refine h m w ⟨fun _=>none,fun _=>none,m,fun _=>none⟩ { tmps:=vals.toArray++Array.replicate (fn.ntmps - vals.toArray.size) undef,defers:=[] } w (fun _=>False) (fun _ hb=>hb.elim)
    ⟨hstart,hsz,hfew,fun b cs hb=>by simp[startS] at hb,fun b b' B hb=>by simp[startS] at hb,fun i k sz hi=>by simp[startS] at hi,fun i i' B v k c v' k' c' hi=>by simp at hi,fun i B v k c hi=>by simp at hi,fun i b B v k c hi=>by simp at hi,fun b hb=>⟨rfl,rfl⟩,hm,fun _ _=>rfl,Below.refl _ _,rfl,hg.1,⟨fun b cs B hb=>by simp[startS] at hb,fun b b' B hb=>by simp[startS] at hb,fun _ _=>rfl,hg.2⟩⟩ _ ?_
  rintro ex G' E' S' a' w' ⟨hex,s,M,hs,hE⟩ hn' hr' f
  obtain⟨u,hu,hv'⟩:=resS_ok hr' hs
  have own:∀ k cs,B k=some cs→OwnB (bxOf G' M) w.heap.size w' k cs:=fun k cs hk=>by
    rcases hE.B k cs hk with ⟨b,cs0,l,h1,h2,hne,h3,h4⟩ | ⟨i,n,sz,ds,h1,h2,h3,h4,rfl,h6⟩
    · have hno:G'.obj b=none:=by
        cases ho:G'.obj b with
        | none=>rfl
        | some X =>
          exfalso
          obtain⟨_,_,_,m4⟩:=hr'.more.obj b _ X h2 ho
          by_cases h0:cs0=[]
          · rw[h0,hne h0] at m4;cases m4
          · have hl:=m4.single h0
            rw[hl,List.append_nil] at m4
            cases m4 with
            | mp es _ _ _ _ _ _=>have:=h4 0 (by simp) (by simp at h3;omega);cases this
            | it _ _=>have:=h4 0 (by simp) (by simp at h3;omega);cases this
      obtain⟨X,us,T,g1,g2,g3,g4,g5,gu0,g6⟩:=hr'.box b _ h2 hno
      refine⟨X,us,T,by rw[bx_box hE.fine h1];exact g1,g2,by simp at g3;omega,gu0,g5,fun j hj hj'=>?_⟩
      have hg:=g6 j (by simp;omega) hj'
      rw[List.getElem_append_left (by omega)] at hg
      have hlk:=h4 j (by omega) hj
      refine⟨?_,hlk.vr hr' hE.fine hg.2⟩
      rw[hlk.cell]
      exact hg.1
    · obtain⟨u',hu'⟩:=h2.vr hv'
      obtain⟨X,c,us,T,fr,g1,_,g2,g3,g4,g5,g6,g7⟩:=tip_inv hr' h3 h4 hu'
      refine⟨X,us,(T,fr),by rw[bx_tip hE.fine h1,g1];rfl,g3,by simpa using g6,g4,g5,fun j hj hj'=>?_⟩
      have hj2:j<ds.length:=by simpa using hj
      obtain⟨v,hv⟩:=h6 ds[j] (List.getElem_mem hj2)
      have hg:=g7 j hj2 hj'
      simp only[List.getElem_map]
      refine⟨hg.1,?_⟩
      rw[hv] at hg ⊢
      cases hg.2 with
      | v hx=>exact .d (.v hx)
  have lt:∀ b X,bxOf G' M b=some X→b<K:=fun b X hb=>by
    unfold bxOf at hb
    cases hfd:M.find? (fun p=>p.1 == b) with
    | none=>rw[hfd] at hb;cases hb
    | some p =>
      have h1:=List.mem_of_find?_eq_some hfd
      have h2:=List.find?_some hfd
      have:p.1=b:=by simpa using h2
      rw[← this];exact hE.fine.lt p h1
  have dif:∀ k k' o o',(k,o)∈M→(k',o')∈M→o=o'→k=k':=fun k k' o o' h1 h2 e=>by
    subst e
    obtain⟨i,hi,e1⟩:=List.getElem_of_mem h1
    obtain⟨j,hj,e2⟩:=List.getElem_of_mem h2
    have hi':i<(M.map (·.2)).length:=by simpa using hi
    have hj':j<(M.map (·.2)).length:=by simpa using hj
    have:(M.map (·.2))[i]=(M.map (·.2))[j]:=by simp[e1,e2]
    have hij:=nodup_inj hE.fine.old hi' hj' this
    subst hij
    rw[e1] at e2
    exact (Prod.mk.inj e2).1
  have inj:∀ b b' X,B b≠none→B b'≠none→bxOf G' M b=some X→bxOf G' M b'=some X→b=b':=fun k k' X hk hk' e1 e2=>by
    obtain⟨cs,hcs⟩:=Option.ne_none_iff_exists'.1 hk
    obtain⟨cs',hcs'⟩:=Option.ne_none_iff_exists'.1 hk'
    have kind:∀ k cs,B k=some cs→(∃ b,(k,b,false)∈M∧S'.B b≠none)∨(∃ i,(k,i,true)∈M∧∃ p,G'.tip i=some p):=fun k cs hk=>by
      rcases hE.B k cs hk with ⟨b,cs0,l,h1,h2,_,_⟩ | ⟨i,n,sz,ds,h1,h2,h3,h4,_⟩
      · exact .inl ⟨b,h1,by rw[h2];simp⟩
      · obtain⟨X,v,us,T,cap,fr,g1,_⟩:=hr'.tip i n sz h4
        exact .inr ⟨i,h1,_,g1⟩
    rcases kind k cs hcs with ⟨b,h1,h2⟩ | ⟨i,h1,p,h2⟩<;>rcases kind k' cs' hcs' with ⟨b',h1',h2'⟩ | ⟨i',h1',p',h2'⟩
    · rw[bx_box hE.fine h1] at e1;rw[bx_box hE.fine h1'] at e2
      have:=hr'.inj b b' X h2 h2' e1 e2
      exact dif _ _ _ _ h1 h1' (by rw[this])
    · rw[bx_box hE.fine h1] at e1;rw[bx_tip hE.fine h1',h2'] at e2
      obtain⟨X',v,k0,c⟩:=p'
      simp only[Option.map_some,Option.some.injEq] at e2
      subst e2
      exact (hr'.tbox i' b _ _ _ _ h2' h2 e1).elim
    · rw[bx_tip hE.fine h1,h2] at e1;rw[bx_box hE.fine h1'] at e2
      obtain⟨X',v,k0,c⟩:=p
      simp only[Option.map_some,Option.some.injEq] at e1
      subst e1
      exact (hr'.tbox i b' _ _ _ _ h2 h2' e2).elim
    · rw[bx_tip hE.fine h1,h2] at e1;rw[bx_tip hE.fine h1',h2'] at e2
      obtain⟨X1,v1,k1,c1⟩:=p
      obtain⟨X2,v2,k2,c2⟩:=p'
      simp only[Option.map_some,Option.some.injEq] at e1 e2
      subst e1;subst e2
      have:=hr'.tinj i i' _ _ _ _ _ _ _ h2 h2'
      exact dif _ _ _ _ h1 h1' (by rw[this])
  have fin:a'.defers=[]∧∃ v,(results fn a'.tmps).run P w'=.ok v w'∧(∃ u Bx,Ending.returned v=Ending.returned u∧VR (ghB Bx) w' r u∧(∀ b X,Bx b=some X→b<K)∧(∀ b cs,B b=some cs→OwnB Bx w.heap.size w' b cs) ∧
      (∀ b b' X,B b≠none→B b'≠none→Bx b=some X→Bx b'=some X→b=b')∧Below w.heap.size w w') :=
    ⟨hr'.defers,u,hu,u,bxOf G' M,rfl,hE.like.vr hr' hE.fine hv',lt,own,inj,hr'.below⟩
  rcases hex with rfl | rfl
  · exact fin
  · exact fin
def FinF (P:Program) (rs:List ResultVar) (r:SV) (K:Nat) (B:Nat→Option (List SV)):Exit→Env→St→Prop:=fun ex E S=>(ex=.normal∨ex=.ret)∧∃ s M,resS P E S rs=some s∧FEnd S s r M K B
@[simp] theorem FinF_ret {rs:List ResultVar}{r:SV}{K:Nat}{B:Nat→Option (List SV)}:FinF P rs r K B .ret E S=∃ s M,resS P E S rs=some s∧FEnd S s r M K B:=by
  simp only[FinF,reduceCtorEq,or_true,true_and]
theorem FCall.by_ {gl : Nat → Option D} {md : List Nat} {f : FuncId} {fn : Func} {c : Code} {args : List D} {r : SV} {K : Nat} {B : Nat → Option (List SV)} (hf : P.funcs[f]? = some fn) (hb : fn.body = some c) (hname : (fn.name == "runtime.NumGoroutine") = false) {n : Nat} (hn : fn.ntmps = n) (hle : args.length ≤ n) (hfew : n ≤ globalsAt) {rs : List ResultVar} (hrs : fn.results.toList = rs)
    (h:@VCt true P ⟨c⟩ (startE gl (args.map .d)) (startS gl md n) (FinF P rs r K B)):FCall P gl f args r K B:=FCall.of (md:=md) hf hb hname hn hle hfew (by rw[hrs];exact VC.sound h)
end
end Go.Sh
namespace Go.Sh
open Go.RowKit (Below)
open Go.ChangeShapes Go.WideShapes Go.RowKit
def markAll (w:World) (B:Nat):Nat:=match w.heap[B]? with | some (.cells us _ _)=>us.size | _=>0
theorem markAll_new (w:World):∀ B,w.heap.size≤B→markAll w B=0:=fun B hB=>by
  unfold markAll
  rw[Array.getElem?_eq_none hB]
theorem markAll_cell {w:World}{a:Addr}{u:Value} (h:w.cell? a=some u):a.spot=none∧a.off<markAll w a.block:=by
  unfold World.cell? at h
  unfold markAll
  split at h
  · rename_i c T fr hb
    rw[hb]
    split at h
    · cases h
    · rename_i hs
      exact⟨by simpa using hs,(Array.getElem?_eq_some_iff.1 h).1⟩
  · cases h
section
variable {P:Program}
def Opens {α:Type} (P:Program) (n:Nat) (t:TypeId) (k:Nat) (e:α→List D) (ok:α→Prop):Prop :=
  ∀ (H:Type) (enc:TypeId×Value→H) (w:World) (cs:List Value) (x:DataW H×List MemPlace),DataW.trod enc P w 0 (fun _=>true) true n t cs=some x→(∀ m∈x.1.weights P t,m≤reachBytes) →
    cs.length=k∧∃ a:α,ok a∧(e a).length=k∧∀ j (h:j<(e a).length) (h':j<cs.length),(e a)[j].cell=true∧PV (markAll w) w (e a)[j] cs[j]
theorem Opens.zero {α:Type}{t:TypeId}{k:Nat}{e:α→List D}{ok:α→Prop}:Opens P 0 t k e ok:=fun H enc w cs x h=>by simp[DataW.trod] at h
theorem Opens.mono {α:Type}{n:Nat}{t:TypeId}{k:Nat}{e:α→List D}{ok ok':α→Prop} (h:Opens P n t k e ok) (hm:∀ a,ok a→ok' a):Opens P n t k e ok':=fun H enc w cs x hx hw=>by
  obtain⟨h1,a,h2,h3⟩:=h H enc w cs x hx hw
  exact⟨h1,a,hm a h2,h3⟩
theorem one_cell {α:Type}{e:α→D}{a:α}{u:Value}{w:World} (hc:(e a).cell=true) (h:PV (markAll w) w (e a) u):∀ j (h:j < [e a].length) (h':j < [u].length),([e a][j]).cell=true∧PV (markAll w) w [e a][j] [u][j]:=by
  intro j hj hj'
  have:j=0:=by simpa using hj
  subst this
  exact⟨hc,h⟩
theorem Opens.int {t:TypeId}{k:IntKind} (ht:intKindOf P t=some k) (n:Nat):Opens P n t 1 (fun i:Int=>[.v (.int k i)]) (fun i=>k.min≤i∧i≤k.max):=fun H enc w cs x h hw=>by
  obtain⟨i,rfl,rfl,hwf⟩:=DataW.trod_int (intKindOf_ok ht) h
  refine⟨rfl,i,by simpa[Lit.wf] using hwf,rfl,one_cell (e:=fun i:Int=>.v (.int k i)) rfl (.v rfl)⟩
theorem Opens.bool {t:TypeId} (ht:P.underlying t=some .bool) (n:Nat):Opens P n t 1 (fun b:Bool=>[.v (.bool b)]) (fun _=>True):=fun H enc w cs x h hw=>by
  obtain⟨b,rfl,rfl⟩:=DataW.trod_bool ht h
  exact⟨rfl,b,trivial,rfl,one_cell (e:=fun b:Bool=>.v (.bool b)) rfl (.v rfl)⟩
theorem Opens.string {t:TypeId} (ht:P.underlying t=some .string) (n:Nat):Opens P n t 1 (fun s:ByteArray=>[.v (.string s)]) (fun s=>s.size≤140737488351232):=fun H enc w cs x h hw=>by
  obtain⟨s,rfl,rfl,_⟩:=DataW.trod_string ht h
  refine⟨rfl,s,?_,rfl,one_cell (e:=fun s:ByteArray=>.v (.string s)) rfl (.v rfl)⟩
  have:=hw s.data.toList.length (by simp[DataW.weights])
  unfold reachBytes at this
  simpa using this
theorem cells?_get {w:World}{a:Addr}{n:Nat}{cs:List Value} (h:w.cells? 0 a n=some cs):cs.length=n∧∀ j (hj:j<cs.length),w.cell? (a.add j)=some cs[j]:=by
  unfold World.cells? at h
  rw[if_pos (Nat.zero_le _)] at h
  have h1:=mapM_some_length h
  simp only[List.length_range] at h1
  refine⟨h1,fun j hj=>?_⟩
  have:=mapM_some_get h j j (List.getElem?_range (by omega))
  rw[this,List.getElem?_eq_getElem hj]
theorem list_choose {α:Type}{n:Nat}{p:Nat→α→Prop} (h:∀ i,i<n→∃ a,p i a):∃ l:List α,l.length=n∧∀ i (hi:i<l.length),p i l[i]:=by
  induction n with
  | zero=>exact⟨[],rfl,fun i hi=>by simp at hi⟩
  | succ n ih =>
    obtain⟨l,hl,hp⟩:=ih (fun i hi=>h i (by omega))
    obtain⟨a,ha⟩:=h n (by omega)
    refine⟨l++[a],by simp[hl],fun i hi=>?_⟩
    rcases Nat.lt_or_ge i l.length with h1 | h1
    · rw[List.getElem_append_left h1];exact hp i h1
    · have:i=n:=by simp at hi;omega
      subst this
      have e:(l++[a])[i]=a:=by rw[List.getElem_append_right (by omega)];simp
      rw[e];exact ha
theorem weightsAll_mem {H:Type}{t:TypeId}:∀ {ds:List (DataW H)}{d:DataW H}{m:Nat},d∈ds→m∈d.weights P t→m∈DataW.weightsAll P t ds
  | x::r,d,m,hd,hm=>by
    simp only[DataW.weightsAll,List.mem_append]
    rcases List.mem_cons.1 hd with rfl | hd
    · exact .inl hm
    · exact .inr (weightsAll_mem hd hm)
theorem flat_at {α:Type}{e:α→List D}{k:Nat}:∀ {l:List α} (h:∀ a∈l,(e a).length=k) {j:Nat} (hj:j<(l.flatMap e).length),∃ (i:Nat) (q:Nat) (hi:i<l.length) (hq:q<(e l[i]).length),j=i*k+q∧(l.flatMap e)[j]=(e l[i])[q]
  | [],h,j,hj=>by simp at hj
  | a::r,h,j,hj=>by
    have ha:=h a List.mem_cons_self
    rcases Nat.lt_or_ge j k with h1 | h1
    · refine⟨0,j,by simp,by simpa[ha] using h1,by simp,?_⟩
      simp only[List.flatMap_cons]
      rw[List.getElem_append_left (by omega)]
      rfl
    · have hj2:j - k<(r.flatMap e).length:=by simp only[List.flatMap_cons,List.length_append] at hj;omega
      obtain⟨i,q,hi,hq,e1,e2⟩:=flat_at (fun a ha=>h a (List.mem_cons_of_mem _ ha)) hj2
      refine⟨i+1,q,by simpa using hi,by simpa using hq,by rw[Nat.add_mul];omega,?_⟩
      simp only[List.flatMap_cons]
      rw[List.getElem_append_right (by omega)]
      simp only[ha,e2,List.getElem_cons_succ]
theorem Opens.slice {α:Type}{n:Nat}{t s:TypeId}{k by_:Nat}{e:α→List D}{ok:α→Prop} (ht:P.underlying t=some (.slice s)) (hs:P.cellsOf s=k) (hk:0<k) (hby:P.bytesOf s=by_) (h:Opens P n s k e ok) :
    Opens P (n+1) t 1 (fun l:List α=>[.ps (l.flatMap e) l.length]) (fun l=>l.length*by_≤140737488351232∧∀ a∈l,ok a):=fun H enc w cs x hx hw=>by
  rcases DataW.trod_slice ht hx with ⟨rfl,rfl⟩ | ⟨a,len,cap,elems,rest,n',hn,rfl,rfl,hb,hl,hm,hlen,hel,hsp,_⟩
  · exact⟨rfl,[],⟨by simp,by simp⟩,rfl,one_cell (e:=fun l:List α=>.ps (l.flatMap e) l.length) rfl .nil⟩
  · obtain rfl:n=n':=by omega
    obtain⟨hrl,hrest⟩:=hsp rfl
    have hw1:(elems.length+rest.length)*by_≤reachBytes:=hw _ (by simp only[DataW.weights,ht,List.mem_cons,List.length_map,hby,true_or])
    have each:∀ i,i<len→∃ c:α,ok c∧(e c).length=k∧∃ us:List Value,us.length=k∧(∀ j (hj:j<us.length),w.cell? ((a.add (i*k)).add j)=some us[j])∧∀ j (h:j<(e c).length) (h':j<us.length),(e c)[j].cell=true∧PV (markAll w) w (e c)[j] us[j]:=by
      intro i hi
      have h1:=hel i hi
      rw[hs,List.getElem?_eq_getElem (by omega),Option.bind_eq_some_iff] at h1
      obtain⟨us,hus,htr⟩:=h1
      obtain⟨g1,g2⟩:=cells?_get hus
      obtain⟨q1,c,q2,q3,q4⟩:=h H enc w us _ htr (fun m hm=>hw m (by
        simp only[DataW.weights,ht,List.mem_cons,List.mem_append]
        exact .inr (.inl (weightsAll_mem (List.mem_map.2 ⟨elems[i]'(by omega),List.getElem_mem _,rfl⟩) hm))))
      exact⟨c,q2,q3,us,q1,g2,q4⟩
    obtain⟨l,hll,hp⟩:=list_choose each
    refine⟨rfl,l,⟨?_,?_⟩,rfl,one_cell (e:=fun l:List α=>.ps (l.flatMap e) l.length) rfl ?_⟩
    · unfold reachBytes at hw1
      refine Nat.le_trans (Nat.mul_le_mul_right _ ?_) hw1
      omega
    · intro c hc
      obtain⟨i,hi,rfl⟩:=List.getElem_of_mem hc
      exact (hp i hi).1
    · rw[← hll]
      have hek:∀ c∈l,(e c).length=k:=fun c hc=>by
        obtain⟨i,hi,rfl⟩:=List.getElem_of_mem hc
        exact (hp i hi).2.1
      by_cases hspot:a.spot=none
      · obtain⟨B,o,sp⟩:=a
        simp only at hspot
        subst hspot
        have get:∀ j (hj:j<(l.flatMap e).length),∃ u,w.cell? ⟨B,o+j,none⟩=some u∧((l.flatMap e)[j]).cell=true∧PV (markAll w) w (l.flatMap e)[j] u:=by
          intro j hj
          obtain⟨i,q,hi,hq,e1,e2⟩:=flat_at hek hj
          obtain⟨_,g1,us,g2,g3,g4⟩:=hp i hi
          have hq2:q<us.length:=by omega
          refine⟨us[q],?_,by rw[e2];exact (g4 q hq hq2).1,by rw[e2];exact (g4 q hq hq2).2⟩
          have:=g3 q hq2
          rw[add_off,add_off] at this
          rw[e1, ← Nat.add_assoc];exact this
        refine .ps (fun j=>(w.cell? ⟨B,o+j,none⟩).getD undef) (by omega) (fun j hj=>?_) (fun j hj=>?_) (fun j hj=>?_)
        · obtain⟨u,h1,h2,h3⟩:=get j hj
          exact⟨(markAll_cell h1).2,by rw[h1];rfl⟩
        · obtain⟨u,h1,h2,h3⟩:=get j hj;exact h2
        · obtain⟨u,h1,h2,h3⟩:=get j hj
          rw[h1];exact h3
      · have hcap:cap=0:=by
          rcases Nat.eq_zero_or_pos cap with h0 | h0
          · exact h0
          · exfalso
            have:∃ cs',w.cells? 0 (a.add (0*k)) k=some cs':=by
              rcases Nat.eq_zero_or_pos len with h1 | h1
              · have:=hrest 0 (by omega)
                rw[hs,h1,Nat.zero_add,List.getElem?_eq_getElem (by omega),Option.bind_eq_some_iff] at this
                obtain⟨us,hus,_⟩:=this
                exact⟨us,hus⟩
              · have:=hel 0 h1
                rw[hs,List.getElem?_eq_getElem (by omega),Option.bind_eq_some_iff] at this
                obtain⟨us,hus,_⟩:=this
                exact⟨us,hus⟩
            obtain⟨cs',hcs'⟩:=this
            obtain⟨g1,g2⟩:=cells?_get hcs'
            have:=(markAll_cell (g2 0 (by omega))).1
            rw[Nat.zero_mul] at this
            simp[Addr.add] at this
            exact hspot this
        have h0:l=[]:=List.length_eq_zero_iff.1 (by omega)
        subst h0
        subst hcap
        exact .pz hspot
theorem drop_take_at {α:Type}{l:List α}{o k j:Nat} (hj:j<((l.drop o).take k).length):((l.drop o).take k)[j]=l[o+j]'(by simp at hj;omega):=by simp
theorem fieldTy_ok {t s:TypeId}{i off:Nat} (h:fieldTy P t i=some (s,off)):∃ fs f,P.underlying t=some (.struct fs)∧fs[i]?=some f∧f.type=s∧f.offset=off:=by
  unfold fieldTy at h
  split at h
  · rename_i fs hu
    split at h
    · rename_i f hf
      simp only[Option.some.injEq,Prod.mk.injEq] at h
      exact⟨fs,f,hu,hf,h.1,h.2⟩
    · cases h
  · cases h
def isStruct (P:Program) (t:TypeId):Bool:=match P.underlying t with | some (.struct _)=>true | _=>false
theorem isStruct_ok {t:TypeId} (h:isStruct P t=true):∃ fs,P.underlying t=some (.struct fs):=by unfold isStruct at h;split at h<;>simp_all
def OpensFrom {α:Type} (P:Program) (n:Nat) (t:TypeId) (i off k:Nat) (e:α→List D) (ok:α→Prop):Prop :=
  ∀ (H:Type) (enc:TypeId×Value→H) (w:World) (cs:List Value) (x:DataW H×List MemPlace),DataW.trod enc P w 0 (fun _=>true) true (n+1) t cs=some x→(∀ m∈x.1.weights P t,m≤reachBytes) →
    ∃ a:α,ok a∧(e a).length=k∧∀ j (h:j<(e a).length) (h':off+j<cs.length),(e a)[j].cell=true∧PV (markAll w) w (e a)[j] cs[off+j]
theorem OpensFrom.nil {n i off:Nat}{t:TypeId}:OpensFrom P n t i off 0 (fun _:Unit=>[]) (fun _=>True):=fun H enc w cs x _ _=>⟨(),trivial,rfl,fun j hj=>by simp at hj⟩
theorem OpensFrom.cons {α β:Type}{n:Nat}{t s:TypeId}{k k' off i:Nat}{e:α→List D}{ok:α→Prop}{e':β→List D}{ok':β→Prop} (hf:fieldTy P t i=some (s,off)) (hs:P.cellsOf s=k) (h:Opens P n s k e ok)
    (h':OpensFrom P n t (i+1) (off+k) k' e' ok'):OpensFrom P n t i off (k+k') (fun p:α×β=>e p.1++e' p.2) (fun p=>ok p.1∧ok' p.2):=fun H enc w cs x hx hw=>by
  obtain⟨fs,f,ht,hf,hft,hfo⟩:=fieldTy_ok hf
  obtain⟨xs,n',hn,hx1,hl,hxl,hel⟩:=DataW.trod_struct ht hx
  obtain rfl:n=n':=by omega
  have h1:=hel i f hf
  have hi:i<xs.length:=by rw[hxl];exact (Array.getElem?_eq_some_iff.1 hf).1
  rw[hft,hfo,hs,List.getElem?_eq_getElem hi] at h1
  obtain⟨g1,a,g2,g3,g4⟩:=h H enc w _ _ h1 (fun m hm=>hw m (by
    rw[hx1]
    simp only[DataW.weights,ht]
    refine DataW.weights_mem_each (j:=i) (t:=s) (d:=(xs[i]).1) ?_ ?_ m hm
    · rw[List.getElem?_map,Array.getElem?_toList,hf];simp[hft]
    · rw[List.getElem?_map,List.getElem?_eq_getElem hi];rfl))
  obtain⟨b,r1,r2,r3⟩:=h' H enc w cs x hx hw
  refine⟨(a,b),⟨g2,r1⟩,by simp[g3,r2],fun j hj hj'=>?_⟩
  rcases Nat.lt_or_ge j k with hj1 | hj1
  · have hj2:j<((cs.drop off).take k).length:=by rw[g1];omega
    have:=g4 j (by omega) hj2
    rw[drop_take_at hj2] at this
    simp only
    rw[List.getElem_append_left (by omega)]
    exact this
  · have:=r3 (j - k) (by simp at hj;omega) (by omega)
    simp only
    rw[List.getElem_append_right (by omega)]
    have e1:off+k+(j - k)=off+j:=by omega
    simp only[e1,g3] at this ⊢
    exact this
theorem OpensFrom.struct {α:Type}{n:Nat}{t:TypeId}{k:Nat}{e:α→List D}{ok:α→Prop} (ht:isStruct P t=true) (hk:P.cellsOf t=k) (h:OpensFrom P n t 0 0 k e ok):Opens P (n+1) t k e ok:=fun H enc w cs x hx hw=>by
  obtain⟨fs,ht⟩:=isStruct_ok ht
  obtain⟨xs,n',hn,hx1,hl,hxl,hel⟩:=DataW.trod_struct ht hx
  obtain⟨a,h1,h2,h3⟩:=h H enc w cs x hx hw
  refine⟨by rw[hl,hk],a,h1,h2,fun j hj hj'=>?_⟩
  have:=h3 j hj (by omega)
  simp only[Nat.zero_add] at this
  exact this
theorem Opens.map {α β:Type}{n:Nat}{t:TypeId}{k:Nat}{e:α→List D}{ok:α→Prop}{e':β→List D}{ok':β→Prop} (g:α→β) (he:∀ a,ok a→e' (g a)=e a) (hok:∀ a,ok a→ok' (g a)) (h:Opens P n t k e ok):Opens P n t k e' ok':=fun H enc w cs x hx hw=>by
  obtain⟨h1,a,h2,h3,h4⟩:=h H enc w cs x hx hw
  exact⟨h1,g a,hok a h2,by rw[he a h2];exact h3,by simp only[he a h2];exact h4⟩
theorem Opens.le {α:Type}{n m:Nat}{t:TypeId}{k:Nat}{e:α→List D}{ok:α→Prop} (h:Opens P m t k e ok) (hnm:n≤m):Opens P n t k e ok:=fun H enc w cs x hx hw =>
  h H enc w cs x (DataW.trod_le hnm hx) hw
theorem Opens.arg1 {α:Type}{t:TypeId}{e:α→D}{ok:α→Prop} (h:∀ n,Opens P n t 1 (fun a=>[e a]) ok) {H:Type}{enc:TypeId×Value→H}{w:World}{v:Value}{d:DataW H}{p:List MemPlace} (hv:DataW.Trod enc P w 0 (fun _=>true) true t v d p) (h1:v.oneCell'=true) (hw:∀ m∈d.weights P t,m≤reachBytes) :
    ∃ a,ok a∧PV (markAll w) w (e a) v:=by
  obtain⟨n,hn⟩:=hv
  obtain⟨g1,a,g2,g3,g4⟩:=h n H enc w _ _ hn hw
  have hc:v.cells.toList=[v]:=by cases v<;>simp_all [Value.cells,Value.oneCell']
  refine⟨a,g2,?_⟩
  have:=(g4 0 (by simp) (by rw[hc];simp)).2
  simpa[hc] using this
def oneTy (P:Program) (t:TypeId):Bool:=match P.underlying t with | some (.struct _)=>false | some (.array _ _)=>false | _=>true
theorem okWide_one {t:TypeId} (ht:oneTy P t=true) {W:World}{r:Reach}{base:Nat}{v:Value} (h:Value.okWide P W r base t v):v.oneCell'=true:=by
  unfold oneTy at ht
  unfold Value.okWide at h
  generalize hd:P.underlying t=d at ht h
  have hc:Cell.okWide P W r base t v:=by
    split at h
    · simp at ht
    · simp at ht
    · exact h
  unfold Cell.okWide at hc
  rw[hd] at hc
  cases v with
  | agg cs=>split at hc<;>simp_all [Cell.ok]
  | tuple cs=>split at hc<;>simp_all [Cell.ok]
  | _=>rfl
end
end Go.Sh
