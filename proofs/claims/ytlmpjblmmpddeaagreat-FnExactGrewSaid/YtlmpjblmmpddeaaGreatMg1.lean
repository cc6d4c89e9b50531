/- ShA and what follows it, one behind another. -/
import Derived.WalkKit
import Derived.Below
import Derived.LoopN
import Derived.Orders
import Derived.KernelRfl
import Derived.Laws.CopyRow
import Derived.Laws.AppendOwn
import Derived.Laws.MakeOwn
import Derived.Laws.BytesArg
import Derived.Laws.IdiomStrings
set_option linter.unusedVariables false
set_option linter.unusedSimpArgs false
namespace Go.Sh
open Go.RowKit (Below)
inductive D where
  /-- a value that leads to no memory -/
  | v (x:Value)
  /-- a slice of n elements, with its cells -/
  | ps (cs:List D) (n:Nat)
  /-- a pointer into a row -/
  | pp (cs:List D) (off:Nat)
  | agg (cs:List D)
  | tup (cs:List D)
  | ifc (t:TypeId) (x:D)
  | fn (f:Fn) (first caps:List D)
  /-- a map: its keys, its values, in the order in which they came -/
  | mp (ks vs:List D)
  deriving Inhabited
inductive SV where
  | d (x:D)
  /-- a slice without spare room -/
  | fl (cs:List D) (n:Nat)
  /-- a slice that is the tip of row i of the call's own, from that row's place q on -/
  | tp (i q:Nat) (cs:List D) (n:Nat)
  /-- a pointer to a variable of the shadow -/
  | op (b off:Nat)
  /-- a slice of the cells of a variable of the shadow -/
  | os (b off n:Nat)
  | ag (cs:List SV)
  | tu (cs:List SV)
  | fc (t:TypeId) (x:SV)
  | fn (f:Fn) (first caps:List SV)
  /-- a map that is a variable of the shadow -/
  | mv (b:Nat)
  /-- a walk over a map, a variable of the shadow -/
  | iv (b:Nat)
  /-- the first n elements of a variable that nothing else leads to: it may be appended to, and cut -/
  | sk (b n sz:Nat)
  /-- a slice of n elements in memory that stays, the elements being whatever they are -/
  | ls (cs:List SV) (n:Nat)
  /-- what a map's variable has -/
  | mc (ks:List D) (vs:List SV)
  /-- what a walk's variable has: the map, and which of its entries were met -/
  | ic (ks vs:List D) (seen:List Nat)
  /-- the function that a range over a function hands to what it ranges over; its record is a variable of the shadow -/
  | yv (b:Nat)
  /-- what such a record's variable has; the slots ks of its frame are ss -/
  | lp (r:Loop) (ks:List Nat) (ss:List SV)
  deriving Inhabited
def D.cell:D→Bool
  | .agg _ | .tup _=>false
  | .v (.agg _) | .v (.tuple _)=>false
  | _=>true
def SV.cell:SV→Bool
  | .d x=>x.cell
  | .ag _ | .tu _=>false
  | _=>true
def plain:Value→Bool
  | .bool _ | .int _ _ | .string _ | .nilFunc | .nilIface | .pointer none | .map none | .chan none=>true
  | .tuple vs=>vs.size == 0
  | _=>false
structure Gh where
  box:Nat→Option Nat
  tip:Nat→Option (Nat×Nat×Nat×Nat)
  mark:Nat→Nat
  /-- where maps and walks lie -/
  obj:Nat→Option Nat
inductive PV (m:Nat→Nat) (w:World):D→Value→Prop
  | v {x:Value} (h:plain x=true):PV m w (.v x) x
  | nil:PV m w (.ps [] 0) (.slice none 0 0)
  /-- an empty slice of which nothing is known but its being empty -/
  | pz {a:Addr} (h:a.spot≠none):PV m w (.ps [] 0) (.slice (some a) 0 0)
  | ps {cs:List D} {n B o c:Nat} (us:Nat→Value) (hn:n≤c)
      (hc:∀ j,j<cs.length→o+j<m B∧w.cell? ⟨B,o+j,none⟩=some (us j)) (hk:∀ j (h:j<cs.length),(cs[j]).cell=true)
      (hv:∀ j (h:j<cs.length),PV m w cs[j] (us j)):PV m w (.ps cs n) (.slice (some ⟨B,o,none⟩) n c)
  | pp {cs:List D} {off B o:Nat} (us:Nat→Value)
      (hc:∀ j,j<cs.length→o+j<m B∧w.cell? ⟨B,o+j,none⟩=some (us j)) (hk:∀ j (h:j<cs.length),(cs[j]).cell=true)
      (hv:∀ j (h:j<cs.length),PV m w cs[j] (us j)):PV m w (.pp cs off) (.pointer (some ⟨B,o+off,none⟩))
  | agg {cs:List D} {us:List Value} (hl:us.length=cs.length) (hk:∀ j (h:j<cs.length),(cs[j]).cell=true)
      (hv:∀ j (h:j<cs.length) (h':j<us.length),PV m w cs[j] us[j]):PV m w (.agg cs) (.agg us.toArray)
  | tup {cs:List D} {us:List Value} (hl:us.length=cs.length)
      (hv:∀ j (h:j<cs.length) (h':j<us.length),PV m w cs[j] us[j]):PV m w (.tup cs) (.tuple us.toArray)
  | ifc {t:TypeId} {x:D} {u:Value} (h:PV m w x u):PV m w (.ifc t x) (.iface t u)
  | fn {f:Fn} {first caps:List D} {us vs:List Value} (hl:us.length=first.length) (hm:vs.length=caps.length)
      (hv:∀ j (h:j<first.length) (h':j<us.length),PV m w first[j] us[j]) (hu:∀ j (h:j<caps.length) (h':j<vs.length),PV m w caps[j] vs[j]) :
      PV m w (.fn f first caps) (.func f us.toArray vs.toArray)
  | mp {ks vs:List D} {B:Nat} (es:Array MapEntry) (hm:0<m B) (hb:w.heap[B]?=some (.map es es.size)) (h1:es.size=ks.length) (h2:es.size=vs.length) (hborn:∀ j (h:j<es.size),es[j].born=j)
      (hk:∀ j (h:j<ks.length) (h':j<es.size),PV m w ks[j] es[j].key) (hv:∀ j (h:j<vs.length) (h':j<es.size),PV m w vs[j] es[j].val):PV m w (.mp ks vs) (.map (some B))
inductive VR (G:Gh) (w:World):SV→Value→Prop
  | d {x:D} {u:Value} (h:PV G.mark w x u):VR G w (.d x) u
  | fl {cs:List D} {n:Nat} {u:Value} (h:PV G.mark w (.ps cs n) u) (hc:∀ A k c,u=.slice A k c→c=n):VR G w (.fl cs n) u
  | tp {i q:Nat} {cs:List D} {n B o c B' v k cap:Nat} (h:PV G.mark w (.ps cs n) (.slice (some ⟨B,o,none⟩) n c)) (ht:G.tip i=some (B',v,k,cap)) (hn:q+n≤k)
      (he:q+n=k→B'=B∧v≤q∧c+q=cap∧∃ sz,(0<c→o=(q - v)*sz)∧G.mark B=(k - v)*sz∧0<sz):VR G w (.tp i q cs n) (.slice (some ⟨B,o,none⟩) n c)
  | op {b off B:Nat} (h:G.box b=some B):VR G w (.op b off) (.pointer (some ⟨B,off,none⟩))
  | os {b off n c B:Nat} (h:G.box b=some B) (hn:n≤c):VR G w (.os b off n) (.slice (some ⟨B,off,none⟩) n c)
  | ag {cs:List SV} {us:List Value} (hl:us.length=cs.length) (hk:∀ j (h:j<cs.length),(cs[j]).cell=true)
      (hv:∀ j (h:j<cs.length) (h':j<us.length),VR G w cs[j] us[j]):VR G w (.ag cs) (.agg us.toArray)
  | tu {cs:List SV} {us:List Value} (hl:us.length=cs.length)
      (hv:∀ j (h:j<cs.length) (h':j<us.length),VR G w cs[j] us[j]):VR G w (.tu cs) (.tuple us.toArray)
  | fc {t:TypeId} {x:SV} {u:Value} (h:VR G w x u):VR G w (.fc t x) (.iface t u)
  | fn {f:Fn} {first caps:List SV} {us vs:List Value} (hl:us.length=first.length) (hm:vs.length=caps.length)
      (hv:∀ j (h:j<first.length) (h':j<us.length),VR G w first[j] us[j]) (hu:∀ j (h:j<caps.length) (h':j<vs.length),VR G w caps[j] vs[j]) :
      VR G w (.fn f first caps) (.func f us.toArray vs.toArray)
  | mv {b B:Nat} (h:G.obj b=some B):VR G w (.mv b) (.map (some B))
  | iv {b B:Nat} (h:G.obj b=some B):VR G w (.iv b) (.pointer (some ⟨B,0,none⟩))
  | yv {b B:Nat} (h:G.obj b=some B):VR G w (.yv b) (.func (.yield B) #[] #[])
  | ls {cs:List SV} {n B o c:Nat} (us:Nat→Value) (hn:n≤c) (hc:∀ j,j<cs.length→o+j<G.mark B∧w.cell? ⟨B,o+j,none⟩=some (us j)) (hk:∀ j (h:j<cs.length),(cs[j]).cell=true)
      (hv:∀ j (h:j<cs.length),VR G w cs[j] (us j)):VR G w (.ls cs n) (.slice (some ⟨B,o,none⟩) n c)
  | sk {b n sz c B:Nat} {us:Array Value} {T:TypeId} {fr:Nat×Nat} (h:G.box b=some B) (hn:n≤c) (hb:w.heap[B]?=some (.cells us T fr)) (hr:c*sz≤us.size):VR G w (.sk b n sz) (.slice (some ⟨B,0,none⟩) n c)
theorem PV.one {m:Nat→Nat}{w:World}{s:D}{u:Value} (h:PV m w s u) (hk:s.cell=true):u.oneCell'=true:=by
  cases h with
  | v h=>cases u<;>simp_all [D.cell,Value.oneCell']
  | agg _ _ _=>simp[D.cell] at hk
  | tup _ _=>simp[D.cell] at hk
  | _=>rfl
theorem PV.slice_inv {m:Nat→Nat}{w:World}{cs:List D}{n:Nat}{u:Value} (h:PV m w (.ps cs n) u):∃ A c,u=.slice A n c∧n≤c:=by
  cases h with
  | nil=>exact⟨none,0,rfl,Nat.le_refl _⟩
  | pz _=>exact⟨_,0,rfl,Nat.le_refl _⟩
  | ps us hn hc hk hv=>exact⟨_,_,rfl,hn⟩
theorem VR.one {G:Gh}{w:World}{s:SV}{u:Value} (h:VR G w s u) (hk:s.cell=true):u.oneCell'=true:=by
  cases h with
  | d h=>exact h.one hk
  | fl h hc=>obtain⟨A,c,rfl,_⟩:=h.slice_inv;rfl
  | ag _ _ _=>simp[SV.cell] at hk
  | tu _ _=>simp[SV.cell] at hk
  | _=>rfl
structure Fut (G:Gh) (w:World) (G':Gh) (w':World):Prop where
  box:∀ b B,G.box b=some B→G'.box b=some B
  tip:∀ i B v k cap,G.tip i=some (B,v,k,cap)→∃ B' v' k' cap',G'.tip i=some (B',v',k',cap')∧k≤k'∧(k=k'→B'=B∧v'=v∧cap'=cap∧G'.mark B=G.mark B)
  mark:∀ B,G.mark B≤G'.mark B
  cell:∀ B o,o<G.mark B→w'.cell? ⟨B,o,none⟩=w.cell? ⟨B,o,none⟩
  obj:∀ b B,G.obj b=some B→G'.obj b=some B
  row:∀ (B:Nat) (us:Array Value) (T:TypeId) (fr:Nat×Nat),w.heap[B]?=some (.cells us T fr)→∃ us',w'.heap[B]?=some (.cells us' T fr)∧us'.size=us.size
  map:∀ (B:Nat) (es:Array MapEntry) (c:Nat),0<G.mark B→w.heap[B]?=some (.map es c)→w'.heap[B]?=some (.map es c)
structure Calm (w w':World):Prop where
  row:∀ (B:Nat) (us:Array Value) (T:TypeId) (fr:Nat×Nat),w.heap[B]?=some (.cells us T fr)→∃ us',w'.heap[B]?=some (.cells us' T fr)∧us'.size=us.size
  other:∀ (B:Nat) (o:Obj),w.heap[B]?=some o→(∀ us T fr,o≠.cells us T fr)→w'.heap[B]?=some o
theorem Calm.refl (w:World):Calm w w:=⟨fun _ us _ _ h=>⟨us,h,rfl⟩,fun _ _ h _=>h⟩
theorem Calm.of_same {w w':World} (h:∀ B,B<w.heap.size→w'.heap[B]?=w.heap[B]?):Calm w w' :=
  have lt:∀ {B:Nat} {o:Obj},w.heap[B]?=some o→B<w.heap.size:=fun h=>(Array.getElem?_eq_some_iff.1 h).1
  ⟨fun B us _ _ hb=>⟨us,(h B (lt hb)).trans hb,rfl⟩,fun B _ hb _=>(h B (lt hb)).trans hb⟩
theorem Calm.map {w w':World} (h:Calm w w') (B:Nat) (es:Array MapEntry) (c:Nat) (hb:w.heap[B]?=some (.map es c)):w'.heap[B]?=some (.map es c):=h.other B _ hb (fun _ _ _ e=>by cases e)
theorem Fut.mk' {G G':Gh}{w w':World} (hc:Calm w w') (box:∀ b B,G.box b=some B→G'.box b=some B)
  (tip:∀ i B v k cap,G.tip i=some (B,v,k,cap)→∃ B' v' k' cap',G'.tip i=some (B',v',k',cap')∧k≤k'∧(k=k'→B'=B∧v'=v∧cap'=cap∧G'.mark B=G.mark B))
  (mark:∀ B,G.mark B≤G'.mark B) (cell:∀ B o,o<G.mark B→w'.cell? ⟨B,o,none⟩=w.cell? ⟨B,o,none⟩) (obj:∀ b B,G.obj b=some B→G'.obj b=some B):Fut G w G' w' :=
  ⟨box,tip,mark,cell,obj,hc.row,fun B es c _ h=>hc.map B es c h⟩
theorem Fut.refl (G:Gh) (w:World):Fut G w G w :=
  ⟨fun _ _ h=>h,fun _ B v k cap h=>⟨B,v,k,cap,h,Nat.le_refl _,fun _=>⟨rfl,rfl,rfl,rfl⟩⟩,fun _=>Nat.le_refl _,fun _ _ _=>rfl,fun _ _ h=>h,fun _ us _ _ h=>⟨us,h,rfl⟩,fun _ _ _ _ h=>h⟩
theorem Fut.trans {G G' G'':Gh}{w w' w'':World} (h:Fut G w G' w') (k:Fut G' w' G'' w''):Fut G w G'' w'' where
  box b B hb:=k.box b B (h.box b B hb)
  tip i B v n cap ht:=by
    obtain⟨B1,v1,n1,c1,h1,hle1,he1⟩:=h.tip i B v n cap ht
    obtain⟨B2,v2,n2,c2,h2,hle2,he2⟩:=k.tip i B1 v1 n1 c1 h1
    refine⟨B2,v2,n2,c2,h2,Nat.le_trans hle1 hle2,fun e=>?_⟩
    obtain⟨a1,a2,a3,a4⟩:=he1 (by omega)
    obtain⟨b1,b2,b3,b4⟩:=he2 (by omega)
    subst a1
    exact⟨b1,b2.trans a2,b3.trans a3,b4.trans a4⟩
  mark B:=Nat.le_trans (h.mark B) (k.mark B)
  cell B o ho:=(k.cell B o (Nat.lt_of_lt_of_le ho (h.mark B))).trans (h.cell B o ho)
  obj b B hb:=k.obj b B (h.obj b B hb)
  row B us T fr hb:=by
    obtain⟨us1,h1,h2⟩:=h.row B us T fr hb
    obtain⟨us2,k1,k2⟩:=k.row B us1 T fr h1
    exact⟨us2,k1,k2.trans h2⟩
  map B es c hm hb:=k.map B es c (Nat.lt_of_lt_of_le hm (h.mark B)) (h.map B es c hm hb)
theorem PV.keep {m m':Nat→Nat}{w w':World} (hm:∀ B,m B≤m' B) (hw:∀ B o,o<m B→w'.cell? ⟨B,o,none⟩=w.cell? ⟨B,o,none⟩) (hp:∀ (B:Nat) (es:Array MapEntry) (c:Nat),0<m B→w.heap[B]?=some (.map es c)→w'.heap[B]?=some (.map es c)) {x:D}{u:Value} (h:PV m w x u):PV m' w' x u:=by
  induction h with
  | v h=>exact .v h
  | nil=>exact .nil
  | pz h=>exact .pz h
  | ps us hn hc hk hv ih =>
    exact .ps us hn (fun j hj=>⟨Nat.lt_of_lt_of_le (hc j hj).1 (hm _),(hw _ _ (hc j hj).1).trans (hc j hj).2⟩) hk ih
  | pp us hc hk hv ih =>
    exact .pp us (fun j hj=>⟨Nat.lt_of_lt_of_le (hc j hj).1 (hm _),(hw _ _ (hc j hj).1).trans (hc j hj).2⟩) hk ih
  | agg hl hk hv ih=>exact .agg hl hk ih
  | tup hl hv ih=>exact .tup hl ih
  | ifc h ih=>exact .ifc ih
  | fn hl hm hv hu ih1 ih2=>exact .fn hl hm ih1 ih2
  | mp es hm' hb h1 h2 hborn hk hv ih1 ih2=>exact .mp es (Nat.lt_of_lt_of_le hm' (hm _)) (hp _ _ _ hm' hb) h1 h2 hborn ih1 ih2
theorem PV.fut {G G':Gh}{w w':World} (f:Fut G w G' w') {s:D}{u:Value} (h:PV G.mark w s u):PV G'.mark w' s u:=h.keep f.mark f.cell f.map
theorem VR.fut {G G':Gh}{w w':World} (f:Fut G w G' w') {s:SV}{u:Value} (h:VR G w s u):VR G' w' s u:=by
  induction h with
  | d h=>exact .d (h.fut f)
  | fl h hc=>exact .fl (h.fut f) hc
  | tp h ht hn he =>
    obtain⟨B2,v2,k2,cap2,h2,hle2,he2⟩:=f.tip _ _ _ _ _ ht
    refine .tp (h.fut f) h2 (Nat.le_trans hn hle2) (fun e=>?_)
    obtain⟨a1,a2,a3,a4⟩:=he2 (by omega)
    obtain⟨b1,b2,b3,sz,b4,b5,b6⟩:=he (by omega)
    subst b1
    refine⟨a1,by omega,by omega,sz,?_,?_,b6⟩
    · intro hc;rw[b4 hc,a2]
    · rw[a4,b5,a2];congr 2;omega
  | op h=>exact .op (f.box _ _ h)
  | os h hn=>exact .os (f.box _ _ h) hn
  | ag hl hk hv ih=>exact .ag hl hk ih
  | tu hl hv ih=>exact .tu hl ih
  | fc h ih=>exact .fc ih
  | fn hl hm hv hu ih1 ih2=>exact .fn hl hm ih1 ih2
  | mv h=>exact .mv (f.obj _ _ h)
  | iv h=>exact .iv (f.obj _ _ h)
  | yv h=>exact .yv (f.obj _ _ h)
  | sk h hn hb hr =>
    obtain⟨us',k1,k2⟩:=f.row _ _ _ _ hb
    exact .sk (f.box _ _ h) hn k1 (by rw[k2];exact hr)
  | ls us hn hc hk hv ih=>exact .ls us hn (fun j hj=>⟨Nat.lt_of_lt_of_le (hc j hj).1 (f.mark _),(f.cell _ _ (hc j hj).1).trans (hc j hj).2⟩) hk ih
structure St where
  B:Nat→Option (List SV)
  T:Nat→Option (Nat×Nat)
  n:Nat
  nx:Nat
  md:List Nat
  gl:Nat→Option D
abbrev Env:=Nat→Option SV
def globalsAt:Nat:=1048576
def slotOf (a:Act) (k:Nat):Value:=if k<globalsAt then a.tmps.getD k undef else a.eval (.global (k - globalsAt))
def unf (fr:Nat×Nat) (n:Nat):Prop:=fr=(0,0)
def okB (w:World) (B k:Nat):Prop :=
  (∃ us T,w.heap[B]?=some (.cells us T (0,0)))∨(∃ us T fr,w.heap[B]?=some (.cells us T fr)∧∀ j,j<k→∃ n,us[j]?=some (.int .u8 n))∨(∃ es c,w.heap[B]?=some (.map es c))
def MOK (m:Nat→Nat) (w:World):Prop:=∀ B,0<m B→okB w B (m B)
def cleanAt:Nat:=1048575
theorem cellS_of {w:World}{B:Nat}{us:Array Value}{T:TypeId}{fr:Nat×Nat} (h:w.heap[B]?=some (.cells us T fr)) (j:Nat):w.cell? ⟨B,j,none⟩=us[j]?:=by simp[World.cell?,h]
theorem MOK.fut {G G':Gh}{w w':World} (h:MOK G.mark w) (f:Fut G w G' w') (hn:∀ B,G.mark B<G'.mark B→okB w' B (G'.mark B)):MOK G'.mark w':=by
  intro B hB
  rcases Nat.lt_or_ge (G.mark B) (G'.mark B) with h1 | h1
  · exact hn B h1
  · have e:G'.mark B=G.mark B:=Nat.le_antisymm h1 (f.mark B)
    rw[e] at hB ⊢
    rcases h B hB with ⟨us,T,h2⟩ | ⟨us,T,fr,h2,h3⟩ | ⟨es,c,h2⟩
    · obtain⟨us',k,_⟩:=f.row _ _ _ _ h2
      exact .inl ⟨us',T,k⟩
    · obtain⟨us',k,ks⟩:=f.row _ _ _ _ h2
      refine .inr (.inl ⟨us',T,fr,k,fun j hj=>?_⟩)
      have:=f.cell B j hj
      rw[cellS_of h2,cellS_of k] at this
      rw[this];exact h3 j hj
    · exact .inr (.inr ⟨es,c,f.map B es c hB h2⟩)
inductive ObjR (G:Gh) (w:World):List SV→Nat→Prop
  | mp {ks:List D} {vs:List SV} {B:Nat} (es:Array MapEntry) (hb:w.heap[B]?=some (.map es es.size)) (h1:es.size=ks.length) (h2:es.size=vs.length) (hborn:∀ j (h:j<es.size),es[j].born=j)
      (hk:∀ j (h:j<ks.length) (h':j<es.size),PV G.mark w ks[j] es[j].key) (hv:∀ j (h:j<vs.length) (h':j<es.size),VR G w vs[j] es[j].val):ObjR G w [.mc ks vs] B
  | lp {r:Loop} {ks:List Nat} {ss:List SV} {B:Nat} (hb:w.heap[B]?=some (.loop r)) (hs:∀ j (h:j<ss.length),VR G w ss[j] (r.tmps.getD (ks.getD j 0) undef)):ObjR G w [.lp r ks ss] B
  /-- the block for what is to be called later: nothing -/
  | df {B:Nat} (hb:w.heap[B]?=some (.deferred (some []))):ObjR G w [.fc 0 (.ic [] [] [])] B
  | it {ks vs:List D} {seen:List Nat} {B M:Nat} (hb:w.heap[B]?=some (.mapIter (some M) ks.length seen.toArray ks.length)) (hm:PV G.mark w (.mp ks vs) (.map (some M))):ObjR G w [.ic ks vs seen] B
theorem ObjR.fut {G G':Gh}{w w':World}{cs:List SV}{B:Nat} (h:ObjR G w cs B) (f:Fut G w G' w') (hw:w'.heap[B]?=w.heap[B]?):ObjR G' w' cs B:=by
  cases h with
  | mp es hb h1 h2 hborn hk hv=>exact .mp es (hw.trans hb) h1 h2 hborn (fun j hj hj'=>(hk j hj hj').fut f) (fun j hj hj'=>(hv j hj hj').fut f)
  | it hb hm=>exact .it (hw.trans hb) (hm.fut f)
  | lp hb hs=>exact .lp (hw.trans hb) fun j hj=>(hs j hj).fut f
  | df hb=>exact .df (hw.trans hb)
theorem ObjR.other {G:Gh}{w:World}{cs:List SV}{B:Nat} (h:ObjR G w cs B):∃ o,w.heap[B]?=some o∧∀ us T fr,o≠.cells us T fr:=by
  cases h with
  | mp es hb _ _ _ _ _=>exact⟨_,hb,fun _ _ _ e=>by cases e⟩
  | it hb _=>exact⟨_,hb,fun _ _ _ e=>by cases e⟩
  | lp hb _=>exact⟨_,hb,fun _ _ _ e=>by cases e⟩
  | df hb=>exact⟨_,hb,fun _ _ _ e=>by cases e⟩
structure More (w0:World) (G:Gh) (S:St) (F:Nat→Prop) (w:World):Prop where
  obj:∀ b cs B,S.B b=some cs→G.obj b=some B→G.box b=none∧G.mark B=0∧w0.heap.size≤B∧ObjR G w cs B
  oinj:∀ b b' B,S.B b≠none→S.B b'≠none→G.obj b=some B→G.obj b'=some B→b=b'
  ofresh:∀ b,F b→G.obj b=none
  clean:S.gl cleanAt≠none→MOK G.mark w
theorem More.fut {w0:World}{G G':Gh}{S S':St}{F F':Nat→Prop}{w w':World} (h:More w0 G S F w) (f:Fut G w G' w') (hc:Calm w w') (hB:∀ b cs B,S'.B b=some cs→G'.obj b=some B→S.B b=some cs∧G.obj b=some B∧G'.box b=G.box b)
    (hm:∀ (B:Nat) (o:Obj),w.heap[B]?=some o→(∀ us T fr,o≠.cells us T fr)→G'.mark B=G.mark B) (hF:∀ b,F' b→G'.obj b=none) (hg:S'.gl=S.gl) (hn:S.gl cleanAt≠none→∀ B,G.mark B<G'.mark B→okB w' B (G'.mark B)):More w0 G' S' F' w' where
  obj b cs B hb ho:=by
    obtain⟨h1,h2,h3⟩:=hB b cs B hb ho
    obtain⟨k1,k2,k3,k4⟩:=h.obj b cs B h1 h2
    obtain⟨o,ho1,ho2⟩:=k4.other
    exact⟨h3.trans k1,(hm B o ho1 ho2).trans k2,k3,k4.fut f ((hc.other B o ho1 ho2).trans ho1.symm)⟩
  oinj b b' B hb hb' e e':=by
    obtain⟨cs,hcs⟩:=Option.ne_none_iff_exists'.1 hb
    obtain⟨cs',hcs'⟩:=Option.ne_none_iff_exists'.1 hb'
    obtain⟨h1,h2,_⟩:=hB b cs B hcs e
    obtain⟨h1',h2',_⟩:=hB b' cs' B hcs' e'
    exact h.oinj b b' B (by rw[h1];simp) (by rw[h1'];simp) h2 h2'
  ofresh:=hF
  clean hg':=(h.clean (by rw[← hg];exact hg')).fut f (hn (by rw[← hg];exact hg'))
theorem More.keep {w0:World}{G G':Gh}{S S':St}{F F':Nat→Prop}{w w':World} (h:More w0 G S F w) (f:Fut G w G' w') (hc:Calm w w') (hB:∀ b cs B,S'.B b=some cs→G.obj b=some B→S.B b=some cs) (ho:G'.obj=G.obj) (hx:∀ b B,G.obj b=some B→G'.box b=G.box b)
    (hm:G'.mark=G.mark) (hF:∀ b,F' b→F b) (hg:S'.gl=S.gl):More w0 G' S' F' w' :=
  h.fut f hc (fun b cs B hb e=>by rw[ho] at e;exact⟨hB b cs B hb e,e,hx b B e⟩) (fun B o _ _=>by rw[hm]) (fun b hb=>by rw[ho];exact h.ofresh b (hF b hb)) hg (fun _ B hlt=>by rw[hm] at hlt;exact absurd hlt (Nat.lt_irrefl _))
structure Rel (m0:Nat→Nat) (w0:World) (G:Gh) (E:Env) (S:St) (F:Nat→Prop) (a:Act) (w:World):Prop where
  env:∀ k s,E k=some s→VR G w s (slotOf a k)
  size:a.tmps.size=S.n
  few:S.n≤globalsAt
  box:∀ b cs,S.B b=some cs→G.obj b=none→∃ (B:Nat) (us:Array Value) (T:TypeId×(Nat×Nat)),G.box b=some B∧w.heap[B]?=some (.cells us T.1 T.2)∧cs.length≤us.size∧G.mark B=0∧w0.heap.size≤B∧unf T.2 us.size ∧
    ∀ j (h:j<cs.length) (h':j<us.size),(cs[j]).cell=true∧VR G w cs[j] us[j]
  inj:∀ b b' B,S.B b≠none→S.B b'≠none→G.box b=some B→G.box b'=some B→b=b'
  tip:∀ i k sz,S.T i=some (k,sz)→∃ B v us T cap fr,G.tip i=some (B,v,k,cap)∧w.heap[B]?=some (.cells us T fr)∧unf fr us.size∧w0.heap.size≤B∧G.mark B=(k - v)*sz∧(cap - v)*sz≤us.size∧v≤k∧0<sz∧k≤cap
  tinj:∀ i i' B v k c v' k' c',G.tip i=some (B,v,k,c)→G.tip i'=some (B,v',k',c')→i=i'
  tlt:∀ i B v k c,G.tip i=some (B,v,k,c)→B<w.heap.size
  tbox:∀ i b B v k c,G.tip i=some (B,v,k,c)→S.B b≠none→G.box b=some B→False
  fresh:∀ b,F b→G.box b=none∧G.tip b=none
  new:∀ B,w.heap.size≤B→G.mark B=0
  low:∀ B,B<w0.heap.size→G.mark B=m0 B
  below:Below w0.heap.size w0 w
  defers:a.defers=[]
  glob:∀ g x,S.gl g=some x→PV G.mark w x (.pointer (some ⟨g,0,none⟩))
  more:More w0 G S F w
theorem Rel.reenv {m0:Nat→Nat}{w0:World}{G:Gh}{E E':Env}{S:St}{F:Nat→Prop}{a a':Act}{w:World} (h:Rel m0 w0 G E S F a w) (hd:a'.defers=[]) (hs:a'.tmps.size=S.n)
    (he:∀ k s,E' k=some s→VR G w s (slotOf a' k)):Rel m0 w0 G E' S F a' w :=
  ⟨he,hs,h.few,h.box,h.inj,h.tip,h.tinj,h.tlt,h.tbox,h.fresh,h.new,h.low,h.below,hd,h.glob,h.more⟩
def upd {α:Type} (f:Nat→Option α) (k:Nat) (x:α):Nat→Option α:=fun i=>if i=k then some x else f i
theorem upd_same {α:Type} (f:Nat→Option α) (k:Nat) (x:α):upd f k x k=some x:=if_pos rfl
theorem upd_ne {α:Type} (f:Nat→Option α) {k i:Nat} (x:α) (h:i≠k):upd f k x i=f i:=if_neg h
def Env.put (E:Env) (d:Option Nat) (s:SV):Env:=match d with | some k=>upd E k s | none=>E
theorem put_size (a:Act) (d:Option Nat) (u:Value):(a.put d u).tmps.size=a.tmps.size:=by cases d<;>simp[Act.put]
theorem put_defers (a:Act) (d:Option Nat) (u:Value):(a.put d u).defers=a.defers:=by cases d<;>rfl
theorem Rel.put {m0:Nat→Nat}{w0:World}{G:Gh}{E:Env}{S:St}{F:Nat→Prop}{a:Act}{w:World} (h:Rel m0 w0 G E S F a w) {d:Option Nat}{s:SV}{u:Value} (hd:∀ k,d=some k→k<S.n)
    (hu:VR G w s u):Rel m0 w0 G (E.put d s) S F (a.put d u) w:=by
  refine h.reenv (by rw[put_defers];exact h.defers) (by rw[put_size];exact h.size) (fun k s' hk=>?_)
  cases d with
  | none=>exact h.env k s' hk
  | some j =>
    by_cases e:k=j
    · subst e
      have:s'=s:=by have:=hk;simp only[Env.put,upd_same,Option.some.injEq] at this;exact this.symm
      subst this
      have hk0:k<S.n:=hd k rfl
      have hj:k<a.tmps.size:=by rw[h.size];exact hk0
      have hg:k<globalsAt:=Nat.lt_of_lt_of_le hk0 h.few
      simp only[slotOf,if_pos hg,Act.put,Array.getD_eq_getD_getElem?,Array.getElem?_setIfInBounds_self,hj,if_true,Option.getD_some]
      exact hu
    · have hk':E k=some s':=by simpa only [Env.put,upd_ne E s e] using hk
      have h2:=h.env k s' hk'
      have e3:slotOf (a.put (some j) u) k=slotOf a k:=by
        unfold slotOf
        split
        · simp only[Act.put,Array.getD_eq_getD_getElem?]
          rw[Array.getElem?_setIfInBounds_ne (by omega)]
        · rfl
      rw[e3];exact h2
theorem fut_draw (G:Gh) (w:World):Fut G w G w.drew:=Fut.mk' (.of_same fun _ _=>rfl) (fun _ _ h=>h) (fun _ B v k cap h=>⟨B,v,k,cap,h,Nat.le_refl _,fun _=>⟨rfl,rfl,rfl,rfl⟩⟩) (fun _=>Nat.le_refl _) (fun _ _ _=>rfl) (fun _ _ h=>h)
theorem Rel.draw {m0:Nat→Nat}{w0:World}{G:Gh}{E:Env}{S:St}{F:Nat→Prop}{a:Act}{w:World} (h:Rel m0 w0 G E S F a w):Rel m0 w0 G E S F a w.drew:=by
  have f:=fut_draw G w
  refine⟨fun k s hk=>(h.env k s hk).fut f,h.size,h.few,fun b cs hb ho=>?_,h.inj,h.tip,h.tinj,h.tlt,h.tbox,h.fresh,h.new,h.low,h.below.drew,h.defers,fun g x hg=>(h.glob g x hg).fut f,h.more.keep f (.of_same fun _ _=>rfl) (fun _ _ _ h _=>h) rfl (fun _ _ _=>rfl) rfl (fun _ h=>h) rfl⟩
  obtain⟨B,us,T,h1,h2,h3,h4,h5,hu0,h6⟩:=h.box b cs hb ho
  exact⟨B,us,T,h1,h2,h3,h4,h5,hu0,fun j hj hj'=>⟨(h6 j hj hj').1,(h6 j hj hj').2.fut f⟩⟩
theorem Rel.boxOf {m0:Nat→Nat}{w0:World}{G:Gh}{E:Env}{S:St}{F:Nat→Prop}{a:Act}{w:World} (h:Rel m0 w0 G E S F a w) {b X:Nat}{cs:List SV} (hb:S.B b=some cs) (hg:G.box b=some X):G.obj b=none:=by
  cases ho:G.obj b with
  | none=>rfl
  | some B=>rw[(h.more.obj b cs B hb ho).1] at hg;cases hg
def ofConst:Value→Option SV
  | .slice none 0 0=>some (.fl [] 0)
  | x=>if plain x then some (.d (.v x)) else none
def evalO (E:Env):Operand→Option SV
  | .tmp t=>if t<globalsAt then E t else none
  | .const c=>ofConst c
  | .func f=>some (.fn (.func f) [] [])
  | .global g=>E (globalsAt+g)
theorem ofConst_ok {G:Gh}{w:World}{c:Value}{s:SV} (h:ofConst c=some s):VR G w s c:=by
  unfold ofConst at h
  split at h
  · simp only[Option.some.injEq] at h;subst h;exact .fl .nil (fun A k c e=>by cases e;rfl)
  · split at h
    · simp only[Option.some.injEq] at h;subst h;exact .d (.v (by assumption))
    · cases h
theorem evalO_ok {m0:Nat→Nat}{w0:World}{G:Gh}{E:Env}{S:St}{F:Nat→Prop}{a:Act}{w:World} (h:Rel m0 w0 G E S F a w) {x:Operand}{s:SV} (he:evalO E x=some s):VR G w s (a.eval x):=by
  cases x with
  | tmp t =>
    simp only[evalO] at he
    split at he
    · rename_i ht
      have:=h.env t s he
      rwa [slotOf,if_pos ht] at this
    · cases he
  | const c=>exact ofConst_ok he
  | global g =>
    have:=h.env _ s he
    rwa [slotOf,if_neg (by omega),Nat.add_sub_cancel_left] at this
  | func f =>
    simp only[evalO,Option.some.injEq] at he
    subst he
    exact .fn (us:=[]) (vs:=[]) rfl rfl (fun j hj=>by simp at hj) (fun j hj=>by simp at hj)
mutual
def SV.toD:SV→Option D
  | .d x=>some x
  | .fl cs n=>some (.ps cs n)
  | .tp _ _ cs n=>some (.ps cs n)
  | .op _ _ | .os _ _ _ | .mv _ | .iv _ | .sk _ _ _ | .ls _ _ | .mc _ _ | .ic _ _ _ | .yv _ | .lp _ _ _=>none
  | .ag cs=>(toDs cs).map .agg
  | .tu cs=>(toDs cs).map .tup
  | .fc t x=>(SV.toD x).map (.ifc t)
  | .fn f first caps=>match toDs first,toDs caps with
    | some xs,some ys=>some (.fn f xs ys)
    | _,_=>none
def toDs:List SV→Option (List D)
  | []=>some []
  | s::r=>match SV.toD s,toDs r with
    | some x,some xs=>some (x::xs)
    | _,_=>none
end
theorem toDs_get:∀ {cs:List SV}{xs:List D},toDs cs=some xs→xs.length=cs.length∧∀ j (h:j<cs.length) (h':j<xs.length),SV.toD cs[j]=some xs[j]
  | [],xs,h=>by
    simp only[toDs,Option.some.injEq] at h;subst h
    exact⟨rfl,fun j hj=>by simp at hj⟩
  | s::r,xs,h=>by
    simp only[toDs] at h
    split at h
    · rename_i x ys h1 h2
      simp only[Option.some.injEq] at h;subst h
      obtain⟨hl,hg⟩:=toDs_get h2
      refine⟨by simp[hl],fun j hj hj'=>?_⟩
      cases j with
      | zero=>exact h1
      | succ j=>exact hg j (by simpa using hj) (by simpa using hj')
    · cases h
theorem toD_cell {s:SV}{x:D} (h:s.toD=some x) (hc:s.cell=true):x.cell=true:=by
  cases s with
  | d y=>simp only[SV.toD,Option.some.injEq] at h;subst h;exact hc
  | fl cs n=>simp only[SV.toD,Option.some.injEq] at h;subst h;rfl
  | tp i q cs n=>simp only[SV.toD,Option.some.injEq] at h;subst h;rfl
  | op=>simp[SV.toD] at h
  | os | mv | iv | sk | ls | mc | ic | yv | lp=>simp[SV.toD] at h
  | ag cs=>simp[SV.cell] at hc
  | tu cs=>simp[SV.cell] at hc
  | fc t y=>simp only[SV.toD,Option.map_eq_some_iff] at h;obtain⟨z,_,rfl⟩:=h;rfl
  | fn f xs ys =>
    simp only[SV.toD] at h
    split at h
    · simp only[Option.some.injEq] at h;subst h;rfl
    · cases h
theorem VR.toD {G:Gh}{w:World}{s:SV}{u:Value} (h:VR G w s u):∀ {x:D},s.toD=some x→PV G.mark w x u:=by
  induction h with
  | d h=>intro x hx;simp only[SV.toD,Option.some.injEq] at hx;subst hx;exact h
  | fl h hc=>intro x hx;simp only[SV.toD,Option.some.injEq] at hx;subst hx;exact h
  | tp h ht hn he=>intro x hx;simp only[SV.toD,Option.some.injEq] at hx;subst hx;exact h
  | op h=>intro x hx;simp[SV.toD] at hx
  | os h hn=>intro x hx;simp[SV.toD] at hx
  | mv h=>intro x hx;simp[SV.toD] at hx
  | iv h=>intro x hx;simp[SV.toD] at hx
  | yv h=>intro x hx;simp[SV.toD] at hx
  | sk h hn hb hr=>intro x hx;simp[SV.toD] at hx
  | ls us hn hc hk hv ih=>intro x hx;simp[SV.toD] at hx
  | ag hl hk hv ih =>
    intro x hx
    simp only[SV.toD,Option.map_eq_some_iff] at hx
    obtain⟨xs,h1,rfl⟩:=hx
    obtain⟨h2,h3⟩:=toDs_get h1
    exact .agg (by omega) (fun j hj=>toD_cell (h3 j (by omega) hj) (hk j (by omega))) (fun j hj hj'=>ih j (by omega) hj' (h3 j (by omega) hj))
  | tu hl hv ih =>
    intro x hx
    simp only[SV.toD,Option.map_eq_some_iff] at hx
    obtain⟨xs,h1,rfl⟩:=hx
    obtain⟨h2,h3⟩:=toDs_get h1
    exact .tup (by omega) (fun j hj hj'=>ih j (by omega) hj' (h3 j (by omega) hj))
  | fc h ih =>
    intro x hx
    simp only[SV.toD,Option.map_eq_some_iff] at hx
    obtain⟨y,h1,rfl⟩:=hx
    exact .ifc (ih h1)
  | fn hl hm hv hu ih1 ih2 =>
    intro x hx
    simp only[SV.toD] at hx
    split at hx
    · rename_i xs ys h1 h2
      simp only[Option.some.injEq] at hx;subst hx
      obtain⟨a1,a2⟩:=toDs_get h1
      obtain⟨b1,b2⟩:=toDs_get h2
      exact .fn (by omega) (by omega) (fun j hj hj'=>ih1 j (by omega) hj' (a2 j (by omega) hj)) (fun j hj hj'=>ih2 j (by omega) hj' (b2 j (by omega) hj))
    · cases hx
end Go.Sh
namespace Go.Sh
open Go.RowKit (Below)
section
variable {m0:Nat→Nat}{w0:World}{G:Gh}{E:Env}{S:St}{F:Nat→Prop}{a:Act}{w:World}
theorem cell_of_heap {w:World}{B:Nat}{us:Array Value}{T:TypeId}{fr:Nat×Nat} (h:w.heap[B]?=some (.cells us T fr)) (j:Nat):w.cell? ⟨B,j,none⟩=us[j]?:=by
  simp[World.cell?,h]
theorem lt_of_heap {w:World}{B:Nat}{o:Obj} (h:w.heap[B]?=some o):B<w.heap.size:=(Array.getElem?_eq_some_iff.1 h).1
theorem heap_alloc_lt {w:World}{o:Obj}{B:Nat} (h:B<w.heap.size):(w.alloc o).heap[B]?=w.heap[B]?:=by
  show (w.heap.push o)[B]?=_
  rw[Array.getElem?_push,if_neg (by omega)]
theorem heap_alloc_self {w:World}{o:Obj}:(w.alloc o).heap[w.heap.size]?=some o:=by
  show (w.heap.push o)[w.heap.size]?=_
  simp
theorem calm_alloc (w:World) (o:Obj):Calm w (w.alloc o):=.of_same fun _ h=>heap_alloc_lt h
theorem fut_alloc (G:Gh) (hn:∀ B,w.heap.size≤B→G.mark B=0) (o:Obj):Fut G w G (w.alloc o) :=
  Fut.mk' (calm_alloc w o) (fun _ _ h=>h) (fun _ B v k cap h=>⟨B,v,k,cap,h,Nat.le_refl _,fun _=>⟨rfl,rfl,rfl,rfl⟩⟩) (fun _=>Nat.le_refl _) (fun B j hj=>by
    rcases Nat.lt_or_ge B w.heap.size with h | h
    · exact World.cell?_alloc_lt w o ⟨B,j,none⟩ h
    · rw[hn B h] at hj;omega) (fun _ _ h=>h)
theorem Rel.fut_alloc (h:Rel m0 w0 G E S F a w) (o:Obj):Fut G w G (w.alloc o):=Sh.fut_alloc G h.new o
theorem Rel.alloc (h:Rel m0 w0 G E S F a w) (o:Obj):Rel m0 w0 G E S F a (w.alloc o):=by
  have f:=h.fut_alloc o
  refine⟨fun k s hk=>(h.env k s hk).fut f,h.size,h.few,fun b cs hb ho=>?_,h.inj,fun i k sz hi=>?_,h.tinj,fun i B v k c hi=>by have:=h.tlt i B v k c hi;simp;omega,h.tbox,h.fresh,fun B hB=>h.new B (by simp at hB;omega),h.low,h.below.alloc h.below.size o,h.defers,fun g x hg=>(h.glob g x hg).fut f,h.more.keep f (calm_alloc w o) (fun _ _ _ h _=>h) rfl (fun _ _ _=>rfl) rfl (fun _ h=>h) rfl⟩
  · obtain⟨B,us,T,h1,h2,h3,h4,h5,hu0,h6⟩:=h.box b cs hb ho
    exact⟨B,us,T,h1,(heap_alloc_lt (lt_of_heap h2)).trans h2,h3,h4,h5,hu0,fun j hj hj'=>⟨(h6 j hj hj').1,(h6 j hj hj').2.fut f⟩⟩
  · obtain⟨B,v,us,T,cap,fr,h1,h2,r⟩:=h.tip i k sz hi
    exact⟨B,v,us,T,cap,fr,h1,(heap_alloc_lt (lt_of_heap h2)).trans h2,r⟩
def St.new (S:St) (id:Nat) (cs:List SV):St:={ S with B:=upd S.B id cs }
theorem Rel.new_box (h:Rel m0 w0 G E S F a w) {id:Nat} (hid:F id) (cs:List SV) (us:Array Value) (T:TypeId) (hl:cs.length≤us.size)
    (hv:∀ j (h:j<cs.length) (h':j<us.size),(cs[j]).cell=true∧VR G w cs[j] us[j]) :
    ∃ G',Rel m0 w0 G' E (S.new id cs) (fun b=>F b∧b≠id) a (w.alloc (.cells us T))∧Fut G w G' (w.alloc (.cells us T))∧G'.box id=some w.heap.size:=by
  obtain⟨hf1,hf2⟩:=h.fresh id hid
  have hfo:=h.more.ofresh id hid
  have f:Fut G w { G with box:=upd G.box id w.heap.size } (w.alloc (.cells us T)):=by
    refine Fut.mk' (calm_alloc w _) (fun b B hb=>?_) (fun _ B v k cap h=>⟨B,v,k,cap,h,Nat.le_refl _,fun _=>⟨rfl,rfl,rfl,rfl⟩⟩) (fun _=>Nat.le_refl _) (h.fut_alloc _).cell (fun _ _ h=>h)
    by_cases e:b=id
    · subst e;rw[hf1] at hb;cases hb
    · exact (upd_ne _ _ e).trans hb
  have k:=h.alloc (.cells us T)
  refine⟨{ G with box:=upd G.box id w.heap.size },⟨fun k s hk=>(h.env k s hk).fut f,h.size,h.few,fun b cs' hb ho=>?_,fun b b' B hb hb' e1 e2=>?_,fun i k sz hi=>?_,h.tinj,k.tlt,fun i b B v k c hi hb e=>?_,fun b hb=>?_,k.new,h.low,k.below,h.defers,fun g x hg=>(h.glob g x hg).fut f,h.more.keep f (calm_alloc w _) (fun b cs' B hb ho=>by
    have e:b≠id:=fun e=>by rw[e,hfo] at ho;cases ho
    simpa only [St.new,upd_ne S.B cs e] using hb) rfl (fun b B ho=>by
    have e:b≠id:=fun e=>by rw[e,hfo] at ho;cases ho
    exact upd_ne _ _ e) rfl (fun _ h=>h.1) rfl⟩,f,upd_same _ _ _⟩
  · by_cases e:b=id
    · subst e
      have:cs'=cs:=by have:=hb;simp only[St.new,upd_same,Option.some.injEq] at this;exact this.symm
      subst this
      exact⟨w.heap.size,us,(T,(0,0)),upd_same _ _ _,heap_alloc_self,hl,h.new _ (Nat.le_refl _),h.below.size,rfl,fun j hj hj'=>⟨(hv j hj hj').1,(hv j hj hj').2.fut f⟩⟩
    · have hb':S.B b=some cs':=by simpa only [St.new,upd_ne S.B cs e] using hb
      obtain⟨B,us',T',h1,h2,h3,h4,h5,hu0,h6⟩:=h.box b cs' hb' ho
      exact⟨B,us',T',(upd_ne _ _ e).trans h1,(heap_alloc_lt (lt_of_heap h2)).trans h2,h3,h4,h5,hu0,fun j hj hj'=>⟨(h6 j hj hj').1,(h6 j hj hj').2.fut f⟩⟩
  · have old:∀ b,b≠id→(S.new id cs).B b≠none→S.B b≠none:=fun b e hb=>by simpa only [St.new,upd_ne S.B cs e] using hb
    have lt:∀ b B,S.B b≠none→G.box b=some B→B<w.heap.size:=fun b B hb hg=>by
      obtain⟨cs',hcs'⟩:=Option.ne_none_iff_exists'.1 hb
      obtain⟨B',us',T',h1,h2,_⟩:=h.box b cs' hcs' (h.boxOf hcs' hg)
      rw[h1] at hg;cases hg
      exact lt_of_heap h2
    by_cases e:b=id
    · by_cases e':b'=id
      · rw[e,e']
      · exfalso
        subst e
        have:=lt b' B (old b' e' hb') ((upd_ne _ _ e').symm.trans e2)
        have e3:some w.heap.size=some B:=(upd_same G.box b w.heap.size).symm.trans e1
        cases e3;omega
    · by_cases e':b'=id
      · exfalso
        subst e'
        have:=lt b B (old b e hb) ((upd_ne _ _ e).symm.trans e1)
        have e3:some w.heap.size=some B:=(upd_same G.box b' w.heap.size).symm.trans e2
        cases e3;omega
      · exact h.inj b b' B (old b e hb) (old b' e' hb') ((upd_ne _ _ e).symm.trans e1) ((upd_ne _ _ e').symm.trans e2)
  · obtain⟨B,v,us',T',cap,fr,h1,h2,r⟩:=h.tip i k sz hi
    exact⟨B,v,us',T',cap,fr,h1,(heap_alloc_lt (lt_of_heap h2)).trans h2,r⟩
  · by_cases eb:b=id
    · subst eb
      have e3:some w.heap.size=some B:=(upd_same G.box b w.heap.size).symm.trans e
      have:=h.tlt i B v k c hi
      cases e3;omega
    · exact h.tbox i b B v k c hi (by simpa only [St.new,upd_ne S.B cs eb] using hb) ((upd_ne _ _ eb).symm.trans e)
  · obtain⟨g1,g2⟩:=h.fresh b hb.1
    exact⟨(upd_ne _ _ hb.2).trans g1,g2⟩
end
def szOf (P:Program) (t:TypeId):Option Nat:=(P.info? t).map (·.size)
def zeroOf (P:Program) (t:TypeId):Option Value:=(P.info? t).bind (·.zero)
def SV.cells:SV→List SV
  | .ag cs=>cs
  | .d (.agg cs)=>cs.map .d
  | s=>[s]
def SV.one:SV→Bool
  | .ag _=>true
  | .d (.agg _)=>true
  | s=>s.cell
theorem VR.cells {G:Gh}{w:World}{s:SV}{u:Value} (h:VR G w s u) (hs:s.one=true) :
    u.cells.size=s.cells.length∧∀ j (h:j<s.cells.length) (h':j<u.cells.size),(s.cells[j]).cell=true∧VR G w s.cells[j] u.cells[j]:=by
  have single:∀ (x:SV) (y:Value),x.cells=[x]→y.cells = #[y]→x.cell=true→VR G w x y→y.cells.size=x.cells.length∧∀ j (h:j<x.cells.length) (h':j<y.cells.size),(x.cells[j]).cell=true∧VR G w x.cells[j] y.cells[j]:=by
    intro x y h1 h2 h3 h4
    refine⟨by rw[h1,h2];rfl,fun j hj hj'=>?_⟩
    have:j=0:=by rw[h1] at hj;simpa using hj
    subst this
    simp only[h1,h2]
    exact⟨h3,h4⟩
  cases h with
  | ag hl hk hv=>exact⟨by simpa[Value.cells,SV.cells] using hl,fun j hj hj'=>⟨hk j hj,hv j hj (by simpa[Value.cells] using hj')⟩⟩
  | tu hl hv=>simp[SV.one,SV.cell] at hs
  | d h =>
    cases h with
    | agg hl hk hv =>
      rename_i cs us
      refine⟨by simpa[Value.cells,SV.cells] using hl,fun j hj hj'=>?_⟩
      have hj1:j<cs.length:=by simpa[SV.cells] using hj
      simp only[SV.cells,List.getElem_map]
      exact⟨hk j hj1, .d (hv j hj1 (by simpa[Value.cells] using hj'))⟩
    | tup hl hv=>simp[SV.one,SV.cell,D.cell] at hs
    | v h =>
      refine single _ _ rfl ?_ ?_ (.d (.v h))
      · cases u<;>simp_all [Value.cells,plain]
      · exact hs
    | nil=>exact single _ _ rfl rfl rfl (.d .nil)
    | pz h=>exact single _ _ rfl rfl rfl (.d (.pz h))
    | ps us hn hc hk hv=>exact single _ _ rfl rfl rfl (.d (.ps us hn hc hk hv))
    | pp us hc hk hv=>exact single _ _ rfl rfl rfl (.d (.pp us hc hk hv))
    | ifc h=>exact single _ _ rfl rfl rfl (.d (.ifc h))
    | fn hl hm hv hu=>exact single _ _ rfl rfl rfl (.d (.fn hl hm hv hu))
    | mp es hm hb h1 h2 hborn hk hv=>exact single _ _ rfl rfl rfl (.d (.mp es hm hb h1 h2 hborn hk hv))
  | fl h hc =>
    obtain⟨A,c,rfl,_⟩:=h.slice_inv
    exact single _ _ rfl rfl rfl (.fl h hc)
  | tp h ht hn he=>exact single _ _ rfl rfl rfl (.tp h ht hn he)
  | op h=>exact single _ _ rfl rfl rfl (.op h)
  | os h hn=>exact single _ _ rfl rfl rfl (.os h hn)
  | fc h=>exact single _ _ rfl rfl rfl (.fc h)
  | fn hl hm hv hu=>exact single _ _ rfl rfl rfl (.fn hl hm hv hu)
  | mv h=>exact single _ _ rfl rfl rfl (.mv h)
  | iv h=>exact single _ _ rfl rfl rfl (.iv h)
  | yv h=>exact single _ _ rfl rfl rfl (.yv h)
  | sk h hn hb hr=>exact single _ _ rfl rfl rfl (.sk h hn hb hr)
  | ls us hn hc hk hv=>exact single _ _ rfl rfl rfl (.ls us hn hc hk hv)
def constCells:List Value→Option (List SV)
  | []=>some []
  | c::r=>match ofConst c,constCells r with
    | some s,some ss=>some (s::ss)
    | _,_=>none
theorem ofConst_cell {c:Value}{s:SV} (h:ofConst c=some s) (hc:c.oneCell'=true):s.cell=true:=by
  unfold ofConst at h
  split at h
  · simp only[Option.some.injEq] at h;subst h;rfl
  · split at h
    · simp only[Option.some.injEq] at h;subst h
      cases c<;>simp_all [SV.cell,D.cell,Value.oneCell']
    · cases h
theorem constCells_ok {G:Gh}{w:World}:∀ {us:List Value}{cs:List SV},constCells us=some cs→us.all Value.oneCell'=true→cs.length=us.length∧∀ j (h:j<cs.length) (h':j<us.length),(cs[j]).cell=true∧VR G w cs[j] us[j]
  | [],cs,h,_=>by
    simp only[constCells,Option.some.injEq] at h
    subst h
    exact⟨rfl,fun j hj=>by simp at hj⟩
  | c::r,cs,h,ha=>by
    simp only[constCells] at h
    split at h
    · rename_i s ss h1 h2
      simp only[Option.some.injEq] at h
      subst h
      simp only[List.all_cons,Bool.and_eq_true] at ha
      obtain⟨hl,hv⟩:=constCells_ok (G:=G) (w:=w) h2 ha.2
      refine⟨by simp[hl],fun j hj hj'=>?_⟩
      cases j with
      | zero=>exact⟨ofConst_cell h1 ha.1,ofConst_ok h1⟩
      | succ j=>exact hv j (by simpa using hj) (by simpa using hj')
    · cases h
def zeroCellsOf (P:Program) (t:TypeId):Option (List SV) :=
  match zeroOf P t with
  | some z=>if z.cells.toList.all Value.oneCell' then constCells z.cells.toList else none
  | none=>none
end Go.Sh
namespace Go.Sh
open Go.RowKit (Below)
inductive Eff where
  | no
  | new (cs:List SV)
  | set (b:Nat) (cs:List SV)
  /-- row i ends behind place k -/
  | tip (i k sz:Nat)
  /-- variable b is no more, and a new one has these cells -/
  | mov (b:Nat) (cs:List SV)
def St.set (S:St) (b:Nat) (cs:List SV):St:={ S with B:=upd S.B b cs }
def St.tipTo (S:St) (i k sz:Nat):St:={ S with T:=upd S.T i (k,sz) }
def St.mov (S:St) (b id:Nat) (cs:List SV):St:={ S with B:=upd (fun x=>if x=b then none else S.B x) id cs }
def St.app (S:St) (id:Nat):Eff→St
  | .no=>S
  | .new cs=>S.new id cs
  | .set b cs=>S.set b cs
  | .tip i k sz=>S.tipTo i k sz
  | .mov b cs=>S.mov b id cs
theorem VR.op_inv {G:Gh}{w:World}{b off:Nat}{u:Value} (h:VR G w (.op b off) u):∃ B,G.box b=some B∧u=.pointer (some ⟨B,off,none⟩):=by
  cases h with
  | op h=>exact⟨_,h,rfl⟩
def Does (P:Program) (m0:Nat→Nat) (w0:World) (G:Gh) (E:Env) (S:St) (F:Nat→Prop) (a:Act) (w:World) (o:Oper) (s:SV) (S':St) (F':Nat→Prop):Prop :=
  ∃ n u w' G',(execOp a.eval o).run P w=.ok n w'∧(n=.value u∨n=.skip∧u=undef)∧VR G' w' s u∧Rel m0 w0 G' E S' F' a w'∧Fut G w G' w'
section
variable {P:Program}{m0:Nat→Nat}{w0:World}{G:Gh}{E:Env}{S:St}{F:Nat→Prop}{a:Act}{w:World}{o:Oper}
theorem Rel.less {F':Nat→Prop} (h:Rel m0 w0 G E S F a w) (hF:∀ b,F' b→F b):Rel m0 w0 G E S F' a w :=
  ⟨h.env,h.size,h.few,h.box,h.inj,h.tip,h.tinj,h.tlt,h.tbox,fun b hb=>h.fresh b (hF b hb),h.new,h.low,h.below,h.defers,h.glob,h.more.keep (Fut.refl _ _) (.refl _) (fun _ _ _ h _=>h) rfl (fun _ _ _=>rfl) rfl hF rfl⟩
theorem Does.quiet (h:Rel m0 w0 G E S F a w) {s:SV}{u:Value} (hr:(execOp a.eval o).run P w=.ok (.value u) w) (hu:VR G w s u):Does P m0 w0 G E S F a w o s S F :=
  ⟨_,u,w,G,hr, .inl rfl,hu,h,Fut.refl _ _⟩
theorem Does.less {s:SV}{S':St}{F' F'':Nat→Prop} (h:Does P m0 w0 G E S F a w o s S' F') (hF:∀ b,F'' b→F' b):Does P m0 w0 G E S F a w o s S' F'':=by
  obtain⟨n,u,w',G',h1,h2,h3,h4,h5⟩:=h
  exact⟨n,u,w',G',h1,h2,h3,h4.less hF,h5⟩
theorem does_move {x:Operand} (ho:o.op=.move x∨o.op=.assign x) (h:Rel m0 w0 G E S F a w) {s:SV} (he:evalO E x=some s):Does P m0 w0 G E S F a w o s S F :=
  .quiet h (u:=a.eval x) (by rcases ho with ho | ho<;>(simp only[execOp,ho];rfl)) (evalO_ok h he)
theorem does_pick {c x y:Operand}{b:Bool} (ho:o.op=.pick c x y) (h:Rel m0 w0 G E S F a w) (hc:evalO E c=some (.d (.v (.bool b)))) {s:SV} (he:evalO E (if b then x else y)=some s) :
    Does P m0 w0 G E S F a w o s S F:=by
  have hb:a.eval c=.bool b:=by
    have:=evalO_ok h hc
    generalize a.eval c=X at this
    cases this with
    | d h=>cases h;rfl
  refine .quiet h (u:=a.eval (if b then x else y)) ?_ (evalO_ok h he)
  simp only[execOp,ho,hb,asBool]
  cases b<;>rfl
theorem run_newRow (T:TypeId) (us:Array Value):(newRow T us).run P w=.ok ⟨w.heap.size,0,none⟩ (w.alloc (.cells us T)):=by simp[newRow]
theorem run_zero {t:TypeId}{z:Value} (hz:zeroOf P t=some z):(zeroValue t).run P w=.ok z w:=by
  unfold zeroOf at hz
  cases hi:P.info? t with
  | none=>simp[hi] at hz
  | some i =>
    simp only[hi,Option.bind_some] at hz
    simp[zeroValue,typeInfo,hi,hz]
theorem run_size {t:TypeId}{n:Nat} (hz:szOf P t=some n):(sizeOf t).run P w=.ok n w:=by
  unfold szOf at hz
  cases hi:P.info? t with
  | none=>simp[hi] at hz
  | some i =>
    simp only[hi,Option.map_some,Option.some.injEq] at hz
    simp[sizeOf,typeInfo,hi,hz]
theorem run_under {t:TypeId}{d:TypeDesc} (hd:P.underlying t=some d):(underlying t).run P w=.ok d w:=by simp[underlying,hd]
theorem zeroCells_ok {t:TypeId}{cs:List SV} (h:zeroCellsOf P t=some cs):∃ z,zeroOf P t=some z∧z.cells.size=cs.length∧∀ (G:Gh) (w:World) j (h:j<cs.length) (h':j<z.cells.size),(cs[j]).cell=true∧VR G w cs[j] z.cells[j]:=by
  unfold zeroCellsOf at h
  split at h
  · rename_i z hz
    split at h
    · rename_i ha
      obtain⟨hl,_⟩:=constCells_ok (G:=⟨fun _=>none,fun _=>none,fun _=>0,fun _=>none⟩) (w:=default) h ha
      refine⟨z,hz,by simpa using hl.symm,fun G w j hj hj'=>?_⟩
      have:=(constCells_ok (G:=G) (w:=w) h ha).2 j hj (by simpa using hj')
      simpa using this
    · cases h
  · cases h
theorem does_new {T:TypeId}{us:Array Value}{cs:List SV}{id:Nat} (h:Rel m0 w0 G E S F a w) (hid:F id)
    (hr:(execOp a.eval o).run P w=.ok (.value (.pointer (some ⟨w.heap.size,0,none⟩))) (w.alloc (.cells us T)))
    (hl:cs.length≤us.size) (hv:∀ j (h:j<cs.length) (h':j<us.size),(cs[j]).cell=true∧VR G w cs[j] us[j]) :
    Does P m0 w0 G E S F a w o (.op id 0) (S.new id cs) (fun b=>F b∧b≠id):=by
  obtain⟨G',h1,h2,h3⟩:=h.new_box hid cs us T hl hv
  exact⟨_,_,_,G',hr, .inl rfl, .op h3,h1,h2⟩
theorem does_alloc {T:TypeId}{cs:List SV}{id:Nat} (ho:o.op=.alloc T) (h:Rel m0 w0 G E S F a w) (hid:F id) (hz:zeroCellsOf P T=some cs) :
    Does P m0 w0 G E S F a w o (.op id 0) (S.new id cs) (fun b=>F b∧b≠id):=by
  obtain⟨z,h1,h2,h3⟩:=zeroCells_ok hz
  refine does_new (T:=T) (us:=z.cells) h hid ?_ (Nat.le_of_eq h2.symm) (h3 G w)
  simp only[execOp,ho,Instr.alloc]
  simp[run_zero h1,newVar,run_newRow]
theorem does_box {T:TypeId}{x:Operand}{s:SV}{id:Nat} (ho:o.op=.box T x) (h:Rel m0 w0 G E S F a w) (hid:F id) (he:evalO E x=some s) (hs:s.one=true) :
    Does P m0 w0 G E S F a w o (.op id 0) (S.new id s.cells) (fun b=>F b∧b≠id):=by
  obtain⟨h2,h3⟩:=(evalO_ok h he).cells hs
  refine does_new (T:=T) (us:=(a.eval x).cells) h hid ?_ (Nat.le_of_eq h2.symm) h3
  simp only[execOp,ho,Instr.box]
  simp[newVar,run_newRow]
theorem add_off (B x j:Nat):(⟨B,x,none⟩:Addr).add j=⟨B,x+j,none⟩:=by
  unfold Addr.add
  split
  · rename_i e;subst e;rfl
  · rfl
def loadG {α:Type} (mk:List α→α) (P:Program) (T:TypeId) (cs:List α) (off:Nat):Option α :=
  match P.underlying T with
  | some (.struct _) | some (.array _ _)=>match szOf P T with
    | some n=>if off+n≤cs.length then some (mk ((cs.drop off).take n)) else none
    | none=>none
  | some _=>cs[off]?
  | none=>none
theorem run_isAgg {T:TypeId}{d:TypeDesc} (hd:P.underlying T=some d):(isAgg T).run P w=.ok (match d with | .struct _ | .array _ _=>true | _=>false) w:=by
  unfold isAgg
  rw[Sem.run_bind,run_under hd]
  cases d<;>rfl
theorem loadG_cases {α:Type}{mk:List α→α}{T:TypeId}{cs:List α}{off:Nat}{s:α} (h:loadG mk P T cs off=some s) :
    (∃ n,(∀ w,(isAgg T).run P w=.ok true w)∧szOf P T=some n∧off+n≤cs.length∧s=mk ((cs.drop off).take n))∨((∀ w,(isAgg T).run P w=.ok false w)∧cs[off]?=some s):=by
  unfold loadG at h
  split at h
  · rename_i f hd
    split at h
    · rename_i n hn
      split at h
      · simp only[Option.some.injEq] at h
        exact .inl ⟨n,fun w=>run_isAgg hd,hn,by assumption,h.symm⟩
      · cases h
    · cases h
  · rename_i l e hd
    split at h
    · rename_i n hn
      split at h
      · simp only[Option.some.injEq] at h
        exact .inl ⟨n,fun w=>run_isAgg hd,hn,by assumption,h.symm⟩
      · cases h
    · cases h
  · rename_i d h1 h2 hd
    refine .inr ⟨fun w=>?_,h⟩
    rw[run_isAgg hd]
    cases d<;>first | rfl | exact absurd rfl (h1 _) | exact absurd rfl (h2 _ _)
  · cases h
theorem loadG_ok {α:Type}{mk:List α→α}{C:α→Prop}{R:α→Value→Prop}
    (hmk:∀ (cs:List α) (us:List Value),us.length=cs.length→(∀ j (h:j<cs.length),C cs[j])→(∀ j (h:j<cs.length) (h':j<us.length),R cs[j] us[j])→R (mk cs) (.agg us.toArray))
    {T:TypeId} {cs:List α} {off:Nat} {s:α} {B o':Nat} {us:Nat→Value} (h:loadG mk P T cs off=some s)
    (hc:∀ j,j<cs.length→w.cell? ⟨B,o'+j,none⟩=some (us j)) (hk:∀ j (h:j<cs.length),C cs[j]) (hv:∀ j (h:j<cs.length),R cs[j] (us j)) :
    ∃ u,(loadVar T ⟨B,o'+off,none⟩).run P w=.ok u w∧R s u:=by
  rcases loadG_cases h with ⟨n,hagg,hn,hle,rfl⟩ | ⟨hagg,hs⟩
  · have hl:(((List.range n).map fun j=>us (off+j))).length=((cs.drop off).take n).length:=by simp;omega
    refine⟨.agg (((List.range n).map fun j=>us (off+j)).toArray),?_,hmk _ _ hl (fun j hj=>?_) (fun j hj hj'=>?_)⟩
    · have hrun:(loadCells ⟨B,o'+off,none⟩ n).run P w=.ok (((List.range n).map fun j=>us (off+j)).toArray) w:=by
        refine run_loadCells w _ n (fun j=>us (off+j)) (fun j hj=>?_)
        have:=hc (off+j) (by omega)
        rw[add_off,Nat.add_assoc];exact this
      simp[loadVar,hagg w,run_size hn,hrun]
    · have:((cs.drop off).take n)[j]=cs[off+j]'(by simp at hj;omega):=by simp
      rw[this];exact hk _ _
    · have e1:((cs.drop off).take n)[j]=cs[off+j]'(by simp at hj;omega):=by simp
      have e2:((List.range n).map fun j=>us (off+j))[j]=us (off+j):=by simp
      rw[e1,e2];exact hv _ _
  · obtain⟨hlt,he⟩:=List.getElem?_eq_some_iff.1 hs
    refine⟨us off,?_,by rw[← he];exact hv off hlt⟩
    simp[loadVar,hagg w,hc off hlt]
theorem partG_ok {α:Type}{mk:List α→α}{C:α→Prop}{R:α→Value→Prop}
    (hmk:∀ (cs:List α) (us:List Value),us.length=cs.length→(∀ j (h:j<cs.length),C cs[j])→(∀ j (h:j<cs.length) (h':j<us.length),R cs[j] us[j])→R (mk cs) (.agg us.toArray))
    {T:TypeId} {cs:List α} {us:Array Value} {off:Nat} {s:α} (h:loadG mk P T cs off=some s) (hl:us.size=cs.length) (hk:∀ j (h:j<cs.length),C cs[j])
    (hv:∀ j (h:j<cs.length) (h':j<us.size),R cs[j] us[j]):∃ u,(part T us off).run P w=.ok u w∧R s u:=by
  rcases loadG_cases h with ⟨n,hagg,hn,hle,rfl⟩ | ⟨hagg,hs⟩
  · have hl2:(us.extract off (off+n)).toList.length=((cs.drop off).take n).length:=by simp;omega
    refine⟨.agg (us.extract off (off+n)),by simp[part,hagg w,run_size hn],?_⟩
    have:=hmk ((cs.drop off).take n) (us.extract off (off+n)).toList hl2 (fun j hj=>by
      have e:((cs.drop off).take n)[j]=cs[off+j]'(by simp at hj;omega):=by simp
      rw[e];exact hk _ _) (fun j hj hj'=>by
      have e1:((cs.drop off).take n)[j]=cs[off+j]'(by simp at hj;omega):=by simp
      have e2:(us.extract off (off+n)).toList[j]=us[off+j]'(by simp at hj;omega):=by simp
      rw[e1,e2];exact hv _ _ _)
    simpa only [Array.toArray_toList] using this
  · obtain⟨hlt,he⟩:=List.getElem?_eq_some_iff.1 hs
    refine⟨us[off]'(by omega),?_,by rw[← he];exact hv off hlt (by omega)⟩
    have hg:us[off]?=some (us[off]'(by omega)):=Array.getElem?_eq_getElem (by omega)
    simp[part,hagg w,hg]
abbrev loadD:=loadG D.agg
abbrev loadS:=loadG SV.ag
theorem does_load_pp {T:TypeId}{x:Operand}{cs:List D}{off:Nat}{s:D} (ho:o.op=.load T x) (h:Rel m0 w0 G E S F a w) (he:evalO E x=some (.d (.pp cs off))) (hl:loadD P T cs off=some s) :
    Does P m0 w0 G E S F a w o (.d s) S F:=by
  have hv:=evalO_ok h he
  generalize hx:a.eval x=X at hv
  cases hv with
  | d hv =>
    cases hv with
    | pp us hc hk hv =>
      obtain⟨u,h1,h2⟩:=loadG_ok (w:=w) (C:=fun x=>D.cell x=true) (R:=PV G.mark w) (fun _ _ a b c=>.agg a b c) hl (fun j hj=>(hc j hj).2) hk hv
      refine .quiet h (u:=u) ?_ (.d h2)
      simp only[execOp,ho,hx,Instr.loadAt,Instr.sureAddr]
      simp[h1]
theorem does_load_op {T:TypeId}{x:Operand}{cs:List SV}{b off:Nat}{s:SV} (ho:o.op=.load T x) (h:Rel m0 w0 G E S F a w) (he:evalO E x=some (.op b off)) (hb:S.B b=some cs) (hl:loadS P T cs off=some s) :
    Does P m0 w0 G E S F a w o s S F:=by
  obtain⟨B',hg,hx⟩:=(evalO_ok h he).op_inv
  obtain⟨B,us,T',h1,h2,h3,h4,h5,hu0,h6⟩:=h.box b cs hb (h.boxOf hb hg)
  obtain rfl:B=B':=Option.some.inj (h1.symm.trans hg)
  have hus:∀ j,j<cs.length→w.cell? ⟨B,0+j,none⟩=some (us.getD j undef):=fun j hj=>by
    rw[Nat.zero_add,cell_of_heap h2,Array.getElem?_eq_getElem (by omega)]
    simp[Array.getD_eq_getD_getElem?,Array.getElem?_eq_getElem (show j<us.size by omega)]
  obtain⟨u,g1,g2⟩:=loadG_ok (w:=w) (C:=fun x=>SV.cell x=true) (R:=VR G w) (fun _ _ a b c=>.ag a b c) (us:=fun j=>us.getD j undef) hl hus (fun j hj=>(h6 j hj (by omega)).1) (fun j hj=>by
    have:=(h6 j hj (by omega)).2
    simpa[Array.getD_eq_getD_getElem?,Array.getElem?_eq_getElem (show j<us.size by omega)] using this)
  rw[Nat.zero_add] at g1
  refine .quiet h (u:=u) ?_ g2
  simp only[execOp,ho,hx,Instr.loadAt,Instr.sureAddr]
  simp[g1]
theorem heap_setRow_same {w:World}{g:Nat}{cur new:Array Value}{t:TypeId}{fr:Nat×Nat} (h:w.heap[g]?=some (.cells cur t fr)):(w.setRow g new).heap[g]?=some (.cells new t fr):=setRow_heap w g cur new t _ h
theorem run_storeCells_fr (g o:Nat) (t:TypeId) (fr:Nat×Nat):∀ (vs:List Value) (i:Nat) (cur:Array Value) (w:World),w.heap[g]?=some (.cells cur t fr)→unf fr cur.size→o+i+vs.length≤cur.size→(∀ v∈vs,v.oneCell'=true) →
    (storeCells ⟨g,o,none⟩ vs i).run P w=.ok () (w.setRow g (cur.toList.take (o+i)++vs++cur.toList.drop (o+i+vs.length)).toArray)
  | [],i,cur,w,hg,_,_,_=>by
    simp only[storeCells,List.append_nil,List.length_nil,Nat.add_zero,List.take_append_drop,Array.toArray_toList]
    rw[setRow_self w g cur t fr hg]
    rfl
  | v::rest,i,cur,w,hg,hf,hl,h1=>by
    have hi:o+i<cur.size:=by simp at hl;omega
    have hcell:w.cell? ⟨g,o+i,none⟩=some cur[o+i]:=by simp[World.cell?,hg,hi]
    have hfro:w.frozen? ⟨g,o+i,none⟩=false:=by
      obtain⟨f1,f2⟩:=fr
      simp only[unf,Prod.mk.injEq] at hf
      simp[World.frozen?,hg]
      omega
    have hst:(store ((⟨g,o,none⟩:Addr).add i) v).run P w=.ok () (w.setRow g (cur.setIfInBounds (o+i) v)):=by
      rw[add_off,run_store P w _ v _ (h1 v (by simp)),hcell]
      simp[hfro,setCell_eq_setRow w g (o+i) cur t fr v hg]
    have ih:=run_storeCells_fr g o t fr rest (i+1) (cur.setIfInBounds (o+i) v) (w.setRow g (cur.setIfInBounds (o+i) v)) (setRow_heap w g cur _ t _ hg) (by simpa using hf) (by simp at hl ⊢;omega) (fun x hx=>h1 x (by simp[hx]))
    simp only[storeCells,Sem.run_bind,hst,Result.andThen_ok,ih,setRow_setRow]
    congr 3
    have e:=list_seg_step cur.toList (o+i) v rest (by simp at hl ⊢;omega)
    simpa[Array.toList_setIfInBounds,Nat.add_assoc] using e
theorem three_get {α:Type}{l m:List α}{off n:Nat} (hm:m.length=n) (hle:off+n≤l.length) (j:Nat) :
    (l.take off++m++l.drop (off+n))[j]?=if j<off then l[j]? else if j<off+n then m[j - off]? else l[j]?:=by
  have e0:(l.take off).length=off:=by simp;omega
  rcases Nat.lt_or_ge j off with h | h
  · rw[if_pos h,List.append_assoc,List.getElem?_append_left (by omega),List.getElem?_take,if_pos h]
  · rw[if_neg (by omega)]
    rcases Nat.lt_or_ge j (off+n) with h2 | h2
    · rw[if_pos h2,List.append_assoc,List.getElem?_append_right (by omega),List.getElem?_append_left (by omega),e0]
    · rw[if_neg (by omega),List.getElem?_append_right (by simp;omega),List.getElem?_drop]
      congr 1;simp;omega
theorem three_rel {α β:Type}{R:α→β→Prop}{cs ms:List α}{us ns:List β}{off n:Nat} (hl:cs.length≤us.length) (hm:ms.length=n) (hn:ns.length=n) (hle:off+n≤cs.length)
    (h1:∀ j (h:j<cs.length) (h':j<us.length),R cs[j] us[j]) (h2:∀ j (h:j<ms.length) (h':j<ns.length),R ms[j] ns[j]) :
    ∀ j (h:j<(cs.take off++ms++cs.drop (off+n)).length) (h':j<(us.take off++ns++us.drop (off+n)).length),R (cs.take off++ms++cs.drop (off+n))[j] (us.take off++ns++us.drop (off+n))[j]:=by
  intro j hj hj'
  have e1:=three_get (l:=cs) (m:=ms) (off:=off) (n:=n) hm hle j
  have e2:=three_get (l:=us) (m:=ns) (off:=off) (n:=n) hn (by omega) j
  rw[List.getElem?_eq_getElem hj] at e1
  rw[List.getElem?_eq_getElem hj'] at e2
  have key:∀ x y,some x=(if j<off then cs[j]? else if j<off+n then ms[j - off]? else cs[j]?)→some y=(if j<off then us[j]? else if j<off+n then ns[j - off]? else us[j]?)→R x y:=by
    intro x y hx hy
    have both:∀ (l:List α) (k:List β) (i:Nat),(∀ j (h:j<l.length) (h':j<k.length),R l[j] k[j])→some x=l[i]?→some y=k[i]?→R x y:=by
      intro l k i hr h3 h4
      obtain⟨a1,rfl⟩:=List.getElem?_eq_some_iff.1 h3.symm
      obtain⟨a2,rfl⟩:=List.getElem?_eq_some_iff.1 h4.symm
      exact hr i a1 a2
    split at hx
    · rename_i h;rw[if_pos h] at hy;exact both _ _ _ h1 hx hy
    · rename_i h;rw[if_neg h] at hy
      split at hx
      · rename_i h';rw[if_pos h'] at hy;exact both _ _ _ h2 hx hy
      · rename_i h';rw[if_neg h'] at hy;exact both _ _ _ h1 hx hy
  exact key _ _ e1 e2
theorem calm_row {w W:World}{B:Nat}{us us':Array Value}{T:TypeId}{fr:Nat×Nat} (h2:w.heap[B]?=some (.cells us T fr)) (hnew:W.heap[B]?=some (.cells us' T fr)) (hsz:us'.size=us.size) (hother:∀ i,i≠B→W.heap[i]?=w.heap[i]?):Calm w W:=by
  refine⟨fun X us1 T1 fr1 hX=>?_,fun X o hX ho=>?_⟩
  · by_cases e:X=B
    · subst e
      rw[h2] at hX;cases hX
      exact⟨us',hnew,hsz⟩
    · exact⟨us1,(hother X e).trans hX,rfl⟩
  · by_cases e:X=B
    · subst e
      rw[h2] at hX;cases hX
      exact absurd rfl (ho _ _ _)
    · exact (hother X e).trans hX
theorem does_store {T:TypeId}{x y:Operand}{cs:List SV}{b off n:Nat}{s:SV} (ho:o.op=.store T x y) (h:Rel m0 w0 G E S F a w) (he:evalO E x=some (.op b off)) (hb:S.B b=some cs)
    (hy:evalO E y=some s) (hs:s.one=true) (hn:szOf P T=some n) (hsn:s.cells.length=n) (hle:off+n≤cs.length) :
    Does P m0 w0 G E S F a w o (.d (.v undef)) (S.set b (cs.take off++s.cells++cs.drop (off+n))) F:=by
  obtain⟨B',hg,hx⟩:=(evalO_ok h he).op_inv
  have hy':=evalO_ok h hy
  generalize hz:a.eval y=Y at hy'
  obtain⟨B,us,T',h1,h2,h3,h4,h5,hu0,h6⟩:=h.box b cs hb (h.boxOf hb hg)
  obtain rfl:B=B':=Option.some.inj (h1.symm.trans hg)
  · obtain⟨k1,k2⟩:=hy'.cells hs
    have h1cell:∀ v∈Y.cells.toList,v.oneCell'=true:=by
      intro v hv
      obtain⟨j,hj,rfl⟩:=List.getElem_of_mem hv
      have hj':j<Y.cells.size:=by simpa using hj
      obtain⟨g1,g2⟩:=k2 j (by omega) hj'
      simpa using g2.one g1
    have hlen:Y.cells.toList.length=n:=by simp[k1,hsn]
    have hst:=run_storeCells_fr (P:=P) B off T'.1 T'.2 Y.cells.toList 0 us w h2 hu0 (by omega) h1cell
    rw[Nat.add_zero,hlen] at hst
    generalize hW:w.setRow B (us.toList.take off++Y.cells.toList++us.toList.drop (off+n)).toArray=W at hst
    have hrun:(execOp a.eval o).run P w=.ok .skip W:=by
      simp only[execOp,ho,hx,hz,Instr.storeAt,Instr.sureAddr]
      have hsz:Y.cells.size=n:=by simpa using hlen
      simp[storeVar,run_size hn,hsz,hst]
    have hother:∀ i,i≠B→W.heap[i]?=w.heap[i]?:=by
      intro i hi
      subst hW
      simp only[World.setRow,Array.getElem?_modify]
      rw[if_neg (fun e=>hi e.symm)]
    have hsize:W.heap.size=w.heap.size:=by subst hW;simp[World.setRow]
    have hnew:W.heap[B]?=some (.cells (us.toList.take off++Y.cells.toList++us.toList.drop (off+n)).toArray T'.1 T'.2):=by subst hW;exact heap_setRow_same h2
    have hcalm:Calm w W:=calm_row h2 hnew (by simp[k1,hsn];omega) hother
    have f:Fut G w G W:=by
      refine Fut.mk' hcalm (fun _ _ h=>h) (fun _ B v k cap h=>⟨B,v,k,cap,h,Nat.le_refl _,fun _=>⟨rfl,rfl,rfl,rfl⟩⟩) (fun _=>Nat.le_refl _) (fun i j hj=>?_) (fun _ _ h=>h)
      by_cases e:i=B
      · subst e;rw[h4] at hj;omega
      · simp only[World.cell?,hother i e]
    refine⟨_,undef,W,G,hrun, .inr ⟨rfl,rfl⟩, .d (.v rfl),⟨fun k s hk=>(h.env k s hk).fut f,h.size,h.few,fun b' cs' hb' ho'=>?_,fun b1 b2 B' e1 e2=>h.inj b1 b2 B' ?_ ?_,fun i k sz hi=>?_,h.tinj,fun i B v k c hi=>by have:=h.tlt i B v k c hi;omega,fun i b' B v k c hi hb'=>h.tbox i b' B v k c hi ?_,h.fresh,fun i hi=>h.new i (by omega),h.low,?_,h.defers,fun g x hg=>(h.glob g x hg).fut f,h.more.keep f hcalm (fun b' cs' B' hb' ho'=>by
      have e:b'≠b:=fun e=>by
        subst e
        rw[h.boxOf hb h1] at ho';cases ho'
      simpa only [St.set,upd_ne S.B _ e] using hb') rfl (fun _ _ _=>rfl) rfl (fun _ h=>h) rfl⟩,f⟩
    · by_cases e:b'=b
      · subst e
        have:cs'=cs.take off++s.cells++cs.drop (off+n):=by have:=hb';simp only[St.set,upd_same,Option.some.injEq] at this;exact this.symm
        subst this
        have esz:(us.toList.take off++Y.cells.toList++us.toList.drop (off+n)).toArray.size=us.size:=by simp[k1,hsn];omega
        refine⟨B,_,T',h1,hnew,by simp[k1,hsn];omega,h4,h5,by rw[esz];exact hu0,fun j hj hj'=>?_⟩
        exact three_rel (R:=fun s u=>s.cell=true∧VR G W s u) (by simpa using h3) hsn hlen hle (fun j hj hj'=>⟨(h6 j hj (by simpa using hj')).1,(h6 j hj (by simpa using hj')).2.fut f⟩)
          (fun j hj hj'=>⟨(k2 j hj (by simpa using hj')).1,(k2 j hj (by simpa using hj')).2.fut f⟩) j hj (by simpa using hj')
      · have hb2:S.B b'=some cs':=by simpa only [St.set,upd_ne S.B _ e] using hb'
        obtain⟨B',us',T'',g1,g2,g3,g4,g5,gu0,g6⟩:=h.box b' cs' hb2 ho'
        have hne:B'≠B:=fun eq=>e (h.inj b' b B (by rw[hb2];simp) (by rw[hb];simp) (by rw[g1,eq]) h1)
        exact⟨B',us',T'',g1,(hother B' hne).trans g2,g3,g4,g5,gu0,fun j hj hj'=>⟨(g6 j hj hj').1,(g6 j hj hj').2.fut f⟩⟩
    · by_cases e:b1=b
      · subst e;rw[hb];simp
      · simpa only [St.set,upd_ne S.B _ e] using e1
    · by_cases e:b2=b
      · subst e;rw[hb];simp
      · simpa only [St.set,upd_ne S.B _ e] using e2
    · obtain⟨B',v',us',T'',cap,fr,g1,g2,g3,g4,g5,g6,g7,g8,g9⟩:=h.tip i k sz hi
      have hne:B'≠B:=fun eq=>by
        subst eq
        exact h.tbox i b B' v' k cap g1 (by rw[hb];simp) h1
      exact⟨B',v',us',T'',cap,fr,g1,(hother B' hne).trans g2,g3,g4,g5,g6,g7,g8,g9⟩
    · by_cases e:b'=b
      · subst e;rw[hb];simp
      · simpa only [St.set,upd_ne S.B _ e] using hb'
    · refine h.below.trans ⟨?_,?_,?_,by omega,fun i hi=>hother i (by omega)⟩<;>(subst hW;rfl)
end
end Go.Sh
namespace Go.Sh
open Go.RowKit (Below)
section
variable {P:Program}{m0:Nat→Nat}{w0:World}{G:Gh}{E:Env}{S:St}{F:Nat→Prop}{a:Act}{w:World}{o:Oper}
theorem VR.v_inv {x u:Value} (h:VR G w (.d (.v x)) u):u=x∧plain x=true:=by
  cases h with
  | d h=>cases h with
    | v h=>exact⟨rfl,h⟩
theorem evalO_v (h:Rel m0 w0 G E S F a w) {x:Operand}{v:Value} (he:evalO E x=some (.d (.v v))):a.eval x=v:=(evalO_ok h he).v_inv.1
def intBin (op:BinOp) (k:IntKind) (x y:Int):Option Value :=
  match op with
  | .add=>some (.int k (k.wrap (x+y)))
  | .sub=>some (.int k (k.wrap (x - y)))
  | .mul=>some (.int k (k.wrap (x*y)))
  | .quo=>if y=0 then none else some (.int k (k.wrap (x.tdiv y)))
  | .rem=>if y=0 then none else some (.int k (x.tmod y))
  | .and=>some (.int k (k.wrap (BitVec.ofInt k.bits x &&& BitVec.ofInt k.bits y).toNat))
  | .or=>some (.int k (k.wrap (BitVec.ofInt k.bits x ||| BitVec.ofInt k.bits y).toNat))
  | .xor=>some (.int k (k.wrap (BitVec.ofInt k.bits x ^^^ BitVec.ofInt k.bits y).toNat))
  | .andNot=>some (.int k (k.wrap (BitVec.ofInt k.bits x &&& ~~~BitVec.ofInt k.bits y).toNat))
  | .eql=>some (.bool (x == y))
  | .neq=>some (.bool (x != y))
  | .lss=>some (.bool (x<y))
  | .leq=>some (.bool (x≤y))
  | .gtr=>some (.bool (x > y))
  | .geq=>some (.bool (x≥y))
  | _=>none
def strBin (op:BinOp) (x y:ByteArray):Option Value :=
  match op with
  | .add=>if x.size+y.size≤9223372036854775807 then some (.string (x++y)) else none
  | .eql=>some (.bool (x.toList == y.toList))
  | .neq=>some (.bool (!(x.toList == y.toList)))
  | .lss=>some (.bool (Op.bytesLess x.toList y.toList))
  | .leq=>some (.bool (Op.bytesLess x.toList y.toList || x.toList == y.toList))
  | .gtr=>some (.bool (!(Op.bytesLess x.toList y.toList || x.toList == y.toList)))
  | .geq=>some (.bool (!Op.bytesLess x.toList y.toList))
  | _=>none
def shiftBin (op:BinOp) (k:IntKind) (x y:Int):Option Value :=
  if y<0 then none else match op with
  | .shl=>some (.int k (k.wrap (x*2 ^ min y.toNat k.bits)))
  | .shr=>some (.int k (x.fdiv (2 ^ min y.toNat k.bits)))
  | _=>none
def isShift:BinOp→Bool
  | .shl | .shr=>true
  | _=>false
def binS (P:Program) (op:BinOp) (T:TypeId) (x y:Value):Option Value :=
  match x,y with
  | .int k a, .int k' b=>if isShift op=true then shiftBin op k a b else if k=k' then intBin op k a b else none
  | .string a, .string b=>strBin op a b
  | .bool a, .bool b=>match op,P.underlying T with
    | .eql,some .bool=>some (.bool (a == b))
    | .neq,some .bool=>some (.bool (!(a == b)))
    | _,_=>none
  | _,_=>none
theorem run_eq_bool {T:TypeId}{x y:Bool} (hu:P.underlying T=some .bool):(Op.equal T (.bool x) (.bool y)).run P w=.ok (x == y) w:=by
  unfold Op.equal
  rw[show Op.maxDepth=9999+1 from rfl,Op.equalIn,Sem.run_bind,run_under hu]
  rfl
set_option maxHeartbeats 800000 in
theorem binS_ok {op:BinOp}{T:TypeId}{x y:Value}{X Y:Operand}{r:Value} (h:binS P op T x y=some r) :
    (do eqGuard op T X Y x y;binOp op T x y:Sem Value).run P w=.ok r w∧plain r=true:=by
  unfold binS at h
  split at h
  · rename_i k a k' b
    have hg:∀ op,(eqGuard op T X Y (.int k a) (.int k' b)).run P w=.ok () w:=by
      intro op;unfold eqGuard;cases op<;>simp
    rw[Sem.run_bind,hg]
    simp only[Result.andThen_ok]
    split at h
    · rename_i hs
      have hs:op=.shl∨op=.shr:=by cases op<;>simp_all [isShift]
      unfold shiftBin at h
      split at h
      · cases h
      · rename_i hy
        rcases hs with rfl | rfl
        · simp only[Option.some.injEq] at h;subst h
          simp[binOp,Op.shift,hy,plain]
        · simp only[Option.some.injEq] at h;subst h
          simp[binOp,Op.shift,hy,plain]
    · rename_i hs
      have hs1:op≠.shl:=fun e=>hs (by rw[e];rfl)
      have hs2:op≠.shr:=fun e=>hs (by rw[e];rfl)
      split at h
      · rename_i hk
        subst hk
        unfold intBin at h
        split at h<;>(first | (cases h;done)|(split at h;(first | (cases h;done) | skip)) | skip)
        all_goals (first | (simp only[Option.some.injEq] at h;subst h)|(rename_i hy;split at h;cases h;simp only[Option.some.injEq] at h;subst h) | skip)
        all_goals (first | (simp_all [binOp,Op.intArith,Op.intBits,Op.intCmp,Op.intDiv,plain];done) | skip)
      · cases h
  · rename_i a b
    have hg:∀ op,(eqGuard op T X Y (.string a) (.string b)).run P w=.ok () w:=by
      intro op;unfold eqGuard;cases op<;>simp
    rw[Sem.run_bind,hg]
    simp only[Result.andThen_ok]
    unfold strBin at h
    split at h
    · split at h
      · rename_i hle
        simp only[Option.some.injEq] at h;subst h
        have hle':¬ (IntKind.i64.max<((a.size+b.size:Nat):Int)):=by
          have:IntKind.i64.max=9223372036854775807:=by decide
          omega
        simp[binOp,Op.stringOp,plain]
        have:IntKind.i64.max=9223372036854775807:=by decide
        omega
      · cases h
    all_goals (first | (cases h;done)|(simp only[Option.some.injEq] at h;subst h;simp[binOp,Op.stringOp,plain]))
  · rename_i a b
    have hg:∀ op,(eqGuard op T X Y (.bool a) (.bool b)).run P w=.ok () w:=by
      intro op;unfold eqGuard;cases op<;>simp
    rw[Sem.run_bind,hg]
    simp only[Result.andThen_ok]
    split at h
    · rename_i hu
      simp only[Option.some.injEq] at h;subst h
      have:=run_eq_bool (w:=w) (x:=a) (y:=b) hu
      simp[binOp,this,plain]
    · rename_i hu
      simp only[Option.some.injEq] at h;subst h
      have:=run_eq_bool (w:=w) (x:=a) (y:=b) hu
      simp[binOp,this,plain]
    · cases h
  · cases h
theorem does_bin {op:BinOp}{T T':TypeId}{X Y:Operand}{x y r:Value} (ho:o.op=.binOp op T X Y T') (h:Rel m0 w0 G E S F a w) (hx:evalO E X=some (.d (.v x))) (hy:evalO E Y=some (.d (.v y))) (hr:binS P op T x y=some r) :
    Does P m0 w0 G E S F a w o (.d (.v r)) S F:=by
  obtain⟨h1,h2⟩:=binS_ok (P:=P) (w:=w) (X:=X) (Y:=Y) hr
  refine .quiet h (u:=r) ?_ (.d (.v h2))
  simp only[execOp,ho,evalO_v h hx,evalO_v h hy]
  rw[Sem.run_bind,h1]
  rfl
def unS (op:UnOp) (x:Value):Option Value :=
  match op,x with
  | .not, .bool b=>some (.bool (!b))
  | .neg, .int k n=>some (.int k (k.wrap (0 - n)))
  | .xor, .int k n=>some (.int k (k.wrap (BitVec.ofInt k.bits (if k.signed then -1 else k.max) ^^^ BitVec.ofInt k.bits n).toNat))
  | _,_=>none
theorem does_un {op:UnOp}{T:TypeId}{X:Operand}{x r:Value} (ho:o.op=.unOp op T X) (h:Rel m0 w0 G E S F a w) (hx:evalO E X=some (.d (.v x))) (hr:unS op x=some r) :
    Does P m0 w0 G E S F a w o (.d (.v r)) S F:=by
  unfold unS at hr
  refine .quiet h (u:=r) ?_ (.d (.v ?_))
  · simp only[execOp,ho,evalO_v h hx]
    split at hr<;>first | (cases hr;done)|(simp only[Option.some.injEq] at hr;subst hr;simp[Op.unary,Op.intArith,Op.intBits])
  · split at hr<;>first | (cases hr;done)|(simp only[Option.some.injEq] at hr;subst hr;rfl)
theorem does_convert {Ts Td:TypeId}{X:Operand}{k k':IntKind}{n:Int} (ho:o.op=.convert Ts Td X) (h:Rel m0 w0 G E S F a w) (hx:evalO E X=some (.d (.v (.int k n)))) {d:TypeDesc} (hs:P.underlying Ts=some d) (hd:P.underlying Td=some (.int k')) :
    Does P m0 w0 G E S F a w o (.d (.v (.int k' (k'.wrap n)))) S F:=by
  refine .quiet h (u:=.int k' (k'.wrap n)) ?_ (.d (.v rfl))
  simp only[execOp,ho,evalO_v h hx,convert]
  simp[run_under hs,run_under hd,Conv.intToInt]
theorem VR.ag_inv {cs:List SV}{u:Value} (h:VR G w (.ag cs) u):∃ us:Array Value,u=.agg us∧us.size=cs.length∧(∀ j (h:j<cs.length),(cs[j]).cell=true)∧∀ j (h:j<cs.length) (h':j<us.size),VR G w cs[j] us[j]:=by
  cases h with
  | ag hl hk hv=>exact⟨_,rfl,by simpa using hl,hk,fun j hj hj'=>hv j hj (by simpa using hj')⟩
theorem VR.agg_inv {cs:List D}{u:Value} (h:VR G w (.d (.agg cs)) u):∃ us:Array Value,u=.agg us∧us.size=cs.length∧(∀ j (h:j<cs.length),(cs[j]).cell=true)∧∀ j (h:j<cs.length) (h':j<us.size),PV G.mark w cs[j] us[j]:=by
  cases h with
  | d h=>cases h with
    | agg hl hk hv=>exact⟨_,rfl,by simpa using hl,hk,fun j hj hj'=>hv j hj (by simpa using hj')⟩
theorem does_field_ag {T:TypeId}{X:Operand}{i:Nat}{fs:Array Field}{f:Field}{cs:List SV}{s:SV} (ho:o.op=.field T X i) (h:Rel m0 w0 G E S F a w) (hx:evalO E X=some (.ag cs))
    (hu:P.underlying T=some (.struct fs)) (hf:fs[i]?=some f) (hl:loadS P f.type cs f.offset=some s):Does P m0 w0 G E S F a w o s S F:=by
  obtain⟨us,e,h1,h2,h3⟩:=(evalO_ok h hx).ag_inv
  obtain⟨u,h4,h5⟩:=partG_ok (P:=P) (w:=w) (C:=fun x=>SV.cell x=true) (R:=VR G w) (fun _ _ a b c=>.ag a b c) hl h1 h2 h3
  refine .quiet h (u:=u) ?_ h5
  simp only[execOp,ho,e,Instr.field]
  simp[run_under hu,hf,asAgg,h4]
theorem does_field_agg {T:TypeId}{X:Operand}{i:Nat}{fs:Array Field}{f:Field}{cs:List D}{s:D} (ho:o.op=.field T X i) (h:Rel m0 w0 G E S F a w) (hx:evalO E X=some (.d (.agg cs)))
    (hu:P.underlying T=some (.struct fs)) (hf:fs[i]?=some f) (hl:loadD P f.type cs f.offset=some s):Does P m0 w0 G E S F a w o (.d s) S F:=by
  obtain⟨us,e,h1,h2,h3⟩:=(evalO_ok h hx).agg_inv
  obtain⟨u,h4,h5⟩:=partG_ok (P:=P) (w:=w) (C:=fun x=>D.cell x=true) (R:=PV G.mark w) (fun _ _ a b c=>.agg a b c) hl h1 h2 h3
  refine .quiet h (u:=u) ?_ (.d h5)
  simp only[execOp,ho,e,Instr.field]
  simp[run_under hu,hf,asAgg,h4]
def fieldOf (P:Program) (T:TypeId) (i:Nat):Option Nat :=
  match P.underlying T with
  | some (.struct fs)=>match fs[i]? with
    | some f=>match szOf P f.type with
      | some (_+1)=>some f.offset
      | _=>none
    | none=>none
  | _=>none
theorem VR.pp_shift {cs:List D}{off:Nat}{u:Value} (h:VR G w (.d (.pp cs off)) u):∃ B o',u=.pointer (some ⟨B,o'+off,none⟩)∧∀ n,VR G w (.d (.pp cs (off+n))) (.pointer (some ⟨B,o'+(off+n),none⟩)):=by
  cases h with
  | d h=>cases h with
    | pp us hc hk hv=>exact⟨_,_,rfl,fun n=>.d (.pp us hc hk hv)⟩
theorem run_fieldAt {T:TypeId}{i n B x:Nat} (hf:fieldOf P T i=some n):(Instr.fieldAt T (.pointer (some ⟨B,x,none⟩)) i).run P w=.ok (.pointer (some ⟨B,x+n,none⟩)) w:=by
  unfold fieldOf at hf
  split at hf
  · rename_i fs hu
    split at hf
    · rename_i f hfi
      split at hf
      · rename_i k hk
        simp only[Option.some.injEq] at hf;subst hf
        have hs:=run_size (P:=P) (w:=w) hk
        simp[Instr.fieldAt,run_under hu,hfi,Instr.sureAddr,fieldPlace,hs,add_off]
      · cases hf
    · cases hf
  · cases hf
theorem does_fieldAddr_pp {T:TypeId}{X:Operand}{i n:Nat}{cs:List D}{off:Nat} (ho:o.op=.fieldAddr T X i) (h:Rel m0 w0 G E S F a w) (hx:evalO E X=some (.d (.pp cs off))) (hf:fieldOf P T i=some n) :
    Does P m0 w0 G E S F a w o (.d (.pp cs (off+n))) S F:=by
  obtain⟨B,o',e,hs⟩:=(evalO_ok h hx).pp_shift
  refine .quiet h ?_ (hs n)
  simp only[execOp,ho,e]
  rw[Sem.run_bind,run_fieldAt hf,Nat.add_assoc];rfl
theorem does_fieldAddr_op {T:TypeId}{X:Operand}{i n:Nat}{b off:Nat} (ho:o.op=.fieldAddr T X i) (h:Rel m0 w0 G E S F a w) (hx:evalO E X=some (.op b off)) (hf:fieldOf P T i=some n) :
    Does P m0 w0 G E S F a w o (.op b (off+n)) S F:=by
  obtain⟨B,hg,e⟩:=(evalO_ok h hx).op_inv
  refine .quiet h ?_ (.op hg)
  simp only[execOp,ho,e]
  rw[Sem.run_bind,run_fieldAt hf];rfl
def rowS:SV→Option (List D×Nat)
  | .d (.ps cs n)=>some (cs,n)
  | .fl cs n=>some (cs,n)
  | .tp _ _ cs n=>some (cs,n)
  | _=>none
theorem rowS_ok {s:SV}{cs:List D}{n:Nat}{u:Value} (h:rowS s=some (cs,n)) (hv:VR G w s u):PV G.mark w (.ps cs n) u:=by
  cases hv with
  | d h' =>
    cases h'<;>simp only[rowS,Option.some.injEq,Prod.mk.injEq,reduceCtorEq] at h
    · obtain⟨rfl,rfl⟩:=h;exact .nil
    · obtain⟨rfl,rfl⟩:=h;rename_i a;exact .pz a
    · obtain⟨rfl,rfl⟩:=h;rename_i a b c d;exact .ps _ a b c d
  | fl h' hc=>simp only[rowS,Option.some.injEq,Prod.mk.injEq] at h;obtain⟨rfl,rfl⟩:=h;exact h'
  | tp h' ht hn he=>simp only[rowS,Option.some.injEq,Prod.mk.injEq] at h;obtain⟨rfl,rfl⟩:=h;exact h'
  | _=>simp[rowS] at h
theorem does_indexAddr_row {T e:TypeId}{X Y:Operand}{s:SV}{cs:List D}{n sz:Nat}{k:IntKind}{i:Int} (ho:o.op=.indexAddr T X Y) (h:Rel m0 w0 G E S F a w) (hx:evalO E X=some s) (hr:rowS s=some (cs,n)) (hy:evalO E Y=some (.d (.v (.int k i))))
    (hu:P.underlying T=some (.slice e)) (hs:szOf P e=some sz) (h0:0≤i) (h1:i<n):Does P m0 w0 G E S F a w o (.d (.pp cs (i.toNat*sz))) S F:=by
  have hv:=rowS_ok hr (evalO_ok h hx)
  have hY:=evalO_v h hy
  generalize hX:a.eval X=A at hv
  cases hv with
  | nil=>simp at h1;omega
  | pz _=>simp at h1;omega
  | ps us hn hc hk hv =>
    refine .quiet h ?_ (.d (.pp us hc hk hv))
    simp only[execOp,ho,hX,hY,Instr.indexAt]
    simp[asIntOf,run_under hu,h0,h1,run_size hs,add_off]
theorem run_indexAt_array {T e:TypeId}{len sz B x:Nat}{k:IntKind}{i:Int} (hu:P.underlying T=some (.array len e)) (hs:szOf P e=some sz) (h0:0≤i) (h1:i<len) :
    (Instr.indexAt T (.pointer (some ⟨B,x,none⟩)) (.int k i)).run P w=.ok (.pointer (some ⟨B,x+i.toNat*sz,none⟩)) w:=by
  simp[Instr.indexAt,asIntOf,run_under hu,Instr.sureAddr,h0,h1,run_size hs,add_off]
theorem does_indexAddr_op {T e:TypeId}{X Y:Operand}{b off len sz:Nat}{k:IntKind}{i:Int} (ho:o.op=.indexAddr T X Y) (h:Rel m0 w0 G E S F a w) (hx:evalO E X=some (.op b off)) (hy:evalO E Y=some (.d (.v (.int k i))))
    (hu:P.underlying T=some (.array len e)) (hs:szOf P e=some sz) (h0:0≤i) (h1:i<len):Does P m0 w0 G E S F a w o (.op b (off+i.toNat*sz)) S F:=by
  obtain⟨B,hg,e'⟩:=(evalO_ok h hx).op_inv
  refine .quiet h ?_ (.op hg)
  simp only[execOp,ho,e',evalO_v h hy]
  rw[Sem.run_bind,run_indexAt_array hu hs h0 h1];rfl
theorem does_indexAddr_pa {T e:TypeId}{X Y:Operand}{cs:List D}{off len sz:Nat}{k:IntKind}{i:Int} (ho:o.op=.indexAddr T X Y) (h:Rel m0 w0 G E S F a w) (hx:evalO E X=some (.d (.pp cs off))) (hy:evalO E Y=some (.d (.v (.int k i))))
    (hu:P.underlying T=some (.array len e)) (hs:szOf P e=some sz) (h0:0≤i) (h1:i<len):Does P m0 w0 G E S F a w o (.d (.pp cs (off+i.toNat*sz))) S F:=by
  obtain⟨B,o',e',hp⟩:=(evalO_ok h hx).pp_shift
  refine .quiet h ?_ (hp _)
  simp only[execOp,ho,e',evalO_v h hy]
  rw[Sem.run_bind,run_indexAt_array hu hs h0 h1,Nat.add_assoc];rfl
theorem VR.os_inv {b off n:Nat}{u:Value} (h:VR G w (.os b off n) u):∃ B c,G.box b=some B∧n≤c∧u=.slice (some ⟨B,off,none⟩) n c:=by
  cases h with
  | os h hn=>exact⟨_,_,h,hn,rfl⟩
theorem does_indexAddr_os {T e:TypeId}{X Y:Operand}{b off n sz:Nat}{k:IntKind}{i:Int} (ho:o.op=.indexAddr T X Y) (h:Rel m0 w0 G E S F a w) (hx:evalO E X=some (.os b off n)) (hy:evalO E Y=some (.d (.v (.int k i))))
    (hu:P.underlying T=some (.slice e)) (hs:szOf P e=some sz) (h0:0≤i) (h1:i<n):Does P m0 w0 G E S F a w o (.op b (off+i.toNat*sz)) S F:=by
  obtain⟨B,c,hg,hc,e'⟩:=(evalO_ok h hx).os_inv
  refine .quiet h ?_ (.op hg)
  simp only[execOp,ho,e',evalO_v h hy,Instr.indexAt]
  simp[asIntOf,run_under hu,h0,h1,run_size hs,add_off]
theorem VR.sk_inv {b n sz:Nat}{u:Value} (h:VR G w (.sk b n sz) u):∃ B c us T fr,G.box b=some B∧n≤c∧u=.slice (some ⟨B,0,none⟩) n c∧w.heap[B]?=some (.cells us T fr)∧c*sz≤us.size:=by
  cases h with
  | sk h hn hb hr=>exact⟨_,_,_,_,_,h,hn,rfl,hb,hr⟩
theorem does_indexAddr_sk {T e:TypeId}{X Y:Operand}{b n sz sz':Nat}{k:IntKind}{i:Int} (ho:o.op=.indexAddr T X Y) (h:Rel m0 w0 G E S F a w) (hx:evalO E X=some (.sk b n sz')) (hy:evalO E Y=some (.d (.v (.int k i))))
    (hu:P.underlying T=some (.slice e)) (hs:szOf P e=some sz) (h0:0≤i) (h1:i<n):Does P m0 w0 G E S F a w o (.op b (i.toNat*sz)) S F:=by
  obtain⟨B,c,us,T',fr,hg,hc,e',_⟩:=(evalO_ok h hx).sk_inv
  refine .quiet h ?_ (.op hg)
  simp only[execOp,ho,e',evalO_v h hy,Instr.indexAt]
  simp[asIntOf,run_under hu,h0,h1,run_size hs,add_off]
theorem does_index_string {T:TypeId}{X Y:Operand}{s:ByteArray}{k:IntKind}{i:Int} (ho:o.op=.index T X Y) (h:Rel m0 w0 G E S F a w) (hx:evalO E X=some (.d (.v (.string s)))) (hy:evalO E Y=some (.d (.v (.int k i))))
    (hu:P.underlying T=some .string) (h0:0≤i) (h1:i<s.size):Does P m0 w0 G E S F a w o (.d (.v (.int .u8 (s[i.toNat]'(by omega)).toNat))) S F:=by
  refine .quiet h ?_ (.d (.v rfl))
  simp only[execOp,ho,evalO_v h hx,evalO_v h hy,Instr.index]
  have:s[i.toNat]?=some (s[i.toNat]'(by omega)):=by
    simp[show i.toNat<s.size by omega]
  simp[asIntOf,run_under hu,h0,this]
def mkIfc (T:TypeId):SV→SV
  | .d x=>.d (.ifc T x)
  | s=>.fc T s
theorem mkIfc_ok {T:TypeId}{s:SV}{u:Value} (h:VR G w s u):VR G w (mkIfc T s) (.iface T u):=by
  cases h with
  | d h=>exact .d (.ifc h)
  | fl h hc=>exact .fc (.fl h hc)
  | tp h ht hn he=>exact .fc (.tp h ht hn he)
  | op h=>exact .fc (.op h)
  | os h hn=>exact .fc (.os h hn)
  | ag hl hk hv=>exact .fc (.ag hl hk hv)
  | tu hl hv=>exact .fc (.tu hl hv)
  | fc h=>exact .fc (.fc h)
  | fn hl hm hv hu=>exact .fc (.fn hl hm hv hu)
  | mv h=>exact .fc (.mv h)
  | iv h=>exact .fc (.iv h)
  | yv h=>exact .fc (.yv h)
  | sk h hn hb hr=>exact .fc (.sk h hn hb hr)
  | ls us hn hc hk hv=>exact .fc (.ls us hn hc hk hv)
theorem does_makeInterface {T:TypeId}{X:Operand}{s:SV}{d:TypeDesc} (ho:o.op=.makeInterface T X) (h:Rel m0 w0 G E S F a w) (hx:evalO E X=some s) (hu:P.underlying T=some d) (hd:∀ ms,d≠.interface ms) :
    Does P m0 w0 G E S F a w o (mkIfc T s) S F:=by
  refine .quiet h ?_ (mkIfc_ok (evalO_ok h hx))
  simp only[execOp,ho,Instr.makeInterface]
  cases d<;>first | exact absurd rfl (hd _) | simp[run_under hu]
def tupS:SV→Nat→Option SV
  | .tu cs,i=>cs[i]?
  | .d (.tup cs),i=>cs[i]?.map .d
  | _,_=>none
theorem does_extract {X:Operand}{i:Nat}{t s:SV} (ho:o.op=.extract X i) (h:Rel m0 w0 G E S F a w) (hx:evalO E X=some t) (hs:tupS t i=some s):Does P m0 w0 G E S F a w o s S F:=by
  have hv:=evalO_ok h hx
  generalize hX:a.eval X=A at hv
  have fin:∀ (us:List Value) (hlt:i<us.length),A=.tuple us.toArray→VR G w s us[i]→Does P m0 w0 G E S F a w o s S F:=by
    intro us hlt e hu
    refine .quiet h (u:=us[i]) ?_ hu
    simp only[execOp,ho,hX,e,Instr.extract]
    simp[List.getElem?_eq_getElem hlt]
  cases hv with
  | tu hl hv =>
    rename_i us
    obtain⟨hlt,he⟩:=List.getElem?_eq_some_iff.1 hs
    exact fin us (by omega) rfl (by rw[← he];exact hv i hlt (by omega))
  | d hv =>
    cases hv with
    | tup hl hv =>
      rename_i cs us
      simp only[tupS,Option.map_eq_some_iff] at hs
      obtain⟨x,hs,rfl⟩:=hs
      obtain⟨hlt,he⟩:=List.getElem?_eq_some_iff.1 hs
      exact fin us (by omega) rfl (.d (by rw[← he];exact hv i hlt (by omega)))
    | _=>simp[tupS] at hs
  | _=>simp[tupS] at hs
def lenS:SV→Option Nat
  | .d (.ps _ n)=>some n
  | .fl _ n=>some n
  | .tp _ _ _ n=>some n
  | .os _ _ n=>some n
  | .sk _ n _=>some n
  | .ls _ n=>some n
  | _=>none
theorem does_len_string {T T2:TypeId}{X:Operand}{b:ByteArray} (ho:o.op=.call { callee:=.builtin .len,args:=#[X],argTypes:=#[T] }) (h:Rel m0 w0 G E S F a w) (hx:evalO E X=some (.d (.v (.string b))))
    (hu:P.underlying T=some .string):Does P m0 w0 G E S F a w o (.d (.v (.int .i64 b.size))) S F:=by
  refine .quiet h (u:=.int .i64 b.size) ?_ (.d (.v rfl))
  simp only[execOp,ho]
  simp[resolve,invoke,builtin,Builtin.len_,evalO_v h hx,run_under hu,goInt]
theorem lenS_ok {s:SV}{n:Nat}{u:Value} (hl:lenS s=some n) (hv:VR G w s u):∃ A c,u=.slice A n c:=by
  cases hv with
  | d h' =>
    cases h'<;>simp only[lenS,Option.some.injEq,reduceCtorEq] at hl
    · subst hl;exact⟨_,_,rfl⟩
    · subst hl;exact⟨_,_,rfl⟩
    · subst hl;exact⟨_,_,rfl⟩
  | fl h' hc=>simp only[lenS,Option.some.injEq] at hl;subst hl;obtain⟨A,c,e,_⟩:=h'.slice_inv;exact⟨A,c,e⟩
  | tp h' ht hn he=>simp only[lenS,Option.some.injEq] at hl;subst hl;exact⟨_,_,rfl⟩
  | os hg hn=>simp only[lenS,Option.some.injEq] at hl;subst hl;exact⟨_,_,rfl⟩
  | sk hg hn hb hr=>simp only[lenS,Option.some.injEq] at hl;subst hl;exact⟨_,_,rfl⟩
  | ls us hn hc hk hv=>simp only[lenS,Option.some.injEq] at hl;subst hl;exact⟨_,_,rfl⟩
  | _=>simp[lenS] at hl
def mmOf:Builtin→Option Bool
  | .max=>some true
  | .min=>some false
  | _=>none
def mmI (m:Bool) (a b:Int):Int:=if m=true then (if b > a then b else a) else if b<a then b else a
def evalMM (m:Bool) (s t:SV):Option SV :=
  match s,t with
  | .d (.v (.int k a)), .d (.v (.int _ b))=>some (.d (.v (.int k (mmI m a b))))
  | _,_=>none
theorem does_mm {b:Builtin}{m:Bool}{Ts:Array TypeId}{X Y:Operand}{s t r:SV} (ho:o.op=.call { callee:=.builtin b,args:=#[X,Y],argTypes:=Ts }) (h:Rel m0 w0 G E S F a w) (hm:mmOf b=some m) (hx:evalO E X=some s) (hy:evalO E Y=some t)
    (hr:evalMM m s t=some r):Does P m0 w0 G E S F a w o r S F:=by
  unfold evalMM at hr
  split at hr
  · rename_i k x k' y
    simp only[Option.some.injEq] at hr;subst hr
    refine .quiet h (u:=.int k (mmI m x y)) ?_ (.d (.v rfl))
    simp only[execOp,ho]
    cases b<;>simp only[mmOf] at hm<;>(try cases hm;done)<;>cases hm
    · simp[resolve,invoke,builtin,Builtin.max_,Builtin.max2,evalO_v h hx,evalO_v h hy,mmI]
    · simp[resolve,invoke,builtin,Builtin.min_,Builtin.min2,evalO_v h hx,evalO_v h hy,mmI]
  · cases hr
theorem does_len {T e:TypeId}{X:Operand}{s:SV}{n:Nat} (ho:o.op=.call { callee:=.builtin .len,args:=#[X],argTypes:=#[T] }) (h:Rel m0 w0 G E S F a w) (hx:evalO E X=some s) (hl:lenS s=some n)
    (hu:P.underlying T=some (.slice e)):Does P m0 w0 G E S F a w o (.d (.v (.int .i64 n))) S F:=by
  obtain⟨A,c,e⟩:=lenS_ok hl (evalO_ok h hx)
  refine .quiet h (u:=.int .i64 n) ?_ (.d (.v rfl))
  simp only[execOp,ho]
  simp[resolve,invoke,builtin,Builtin.len_,e,run_under hu,goInt]
end
end Go.Sh
namespace Go.Sh
open Go.RowKit (Below)
section
variable {P:Program}{m0:Nat→Nat}{w0:World}{G:Gh}{E:Env}{S:St}{F:Nat→Prop}{a:Act}{w:World}{o:Oper}
theorem PV.cells {cs:List D}{n:Nat}{u:Value} (h:PV G.mark w (.ps cs n) u) (hl:0<cs.length):∃ B o' c,u=.slice (some ⟨B,o',none⟩) n c∧n≤c ∧
    ∃ us:List Value,us.length=cs.length∧(∀ j v,us[j]?=some v→o'+j<G.mark B∧w.cell? ⟨B,o'+j,none⟩=some v)∧∀ j (h:j<cs.length) (h':j<us.length),(cs[j]).cell=true∧PV G.mark w cs[j] us[j]:=by
  cases h with
  | nil=>simp at hl
  | pz _=>simp at hl
  | ps us hn hc hk hv =>
    refine⟨_,_,_,rfl,hn,(List.range cs.length).map us,by simp,fun j v hj=>?_,fun j hj hj'=>⟨hk j hj,by simpa using hv j hj⟩⟩
    obtain⟨hlt,he⟩:=List.getElem?_eq_some_iff.1 hj
    have hj2:j<cs.length:=by simpa using hlt
    have he':us j=v:=by simpa using he
    rw[← he']
    exact hc j hj2
theorem PV.mk {m:Nat→Nat}{cs:List D}{n c B o':Nat}{us:List Value} (hl:us.length=cs.length) (hn:n≤c) (hc:∀ j v,us[j]?=some v→o'+j<m B∧w.cell? ⟨B,o'+j,none⟩=some v)
    (hv:∀ j (h:j<cs.length) (h':j<us.length),(cs[j]).cell=true∧PV m w cs[j] us[j]):PV m w (.ps cs n) (.slice (some ⟨B,o',none⟩) n c):=by
  refine .ps (fun j=>us.getD j undef) hn (fun j hj=>?_) (fun j hj=>(hv j hj (by omega)).1) (fun j hj=>?_)
  · exact hc j _ (by simp[List.getD_eq_getElem?_getD,List.getElem?_eq_getElem (show j<us.length by omega)])
  · have:=(hv j hj (by omega)).2
    simpa[List.getD_eq_getElem?_getD,List.getElem?_eq_getElem (show j<us.length by omega)] using this
theorem PV.both {m:Nat→Nat}{cs ds:List D}{us vs:List Value} (hl:us.length=cs.length) (hm:vs.length=ds.length)
    (h1:∀ j (h:j<cs.length) (h':j<us.length),(cs[j]).cell=true∧PV m w cs[j] us[j]) (h2:∀ j (h:j<ds.length) (h':j<vs.length),(ds[j]).cell=true∧PV m w ds[j] vs[j]) :
    ∀ j (h:j<(cs++ds).length) (h':j<(us++vs).length),((cs++ds)[j]).cell=true∧PV m w (cs++ds)[j] (us++vs)[j]:=by
  intro j hj hj'
  rcases Nat.lt_or_ge j cs.length with h | h
  · rw[List.getElem_append_left h,List.getElem_append_left (by omega)];exact h1 j h (by omega)
  · simp only[List.length_append] at hj hj'
    rw[List.getElem_append_right h,List.getElem_append_right (by omega)]
    have:=h2 (j - cs.length) (by omega) (by omega)
    simpa[hl] using this
theorem Rel.new_tip (h:Rel m0 w0 G E S F a w) {i:Nat}{F':Nat→Prop} (hF:∀ b,F' b→F b) (hi:F i∧(∀ b,F' b→b≠i)∨∃ k sz,S.T i=some (k,sz)) {w1:World}{us:Array Value}{T:TypeId}{fr:Nat×Nat}{v n c sz:Nat} (hw:w1=w.alloc (.cells us T fr)) (hfr:unf fr us.size)
    (hsz:0<sz) (hn:v≤n) (hc:n≤c) (hroom:(c - v)*sz≤us.size) (hgrow:∀ k sz',S.T i=some (k,sz')→k<n) :
    ∃ G',Rel m0 w0 G' E (S.tipTo i n sz) F' a w1∧Fut G w G' w1∧G'.mark w.heap.size=(n - v)*sz∧G'.tip i=some (w.heap.size,v,n,c)∧(∀ B,B≠w.heap.size→G'.mark B=G.mark B):=by
  subst hw
  let G':Gh:=⟨G.box,upd G.tip i (w.heap.size,v,n,c),fun B=>if B=w.heap.size then (n - v)*sz else G.mark B,G.obj⟩
  have hk:Rel m0 w0 G E S F a (w.alloc (.cells us T fr)):=h.alloc _
  have hm0:G.mark w.heap.size=0:=h.new _ (Nat.le_refl _)
  have oldtip:∀ B v' k cap,G.tip i=some (B,v',k,cap)→k<n:=by
    intro B v' k cap hg
    rcases hi with ⟨hi,_⟩ | ⟨k',sz',hi⟩
    · rw[(h.fresh i hi).2] at hg;cases hg
    · obtain⟨B',v2,us',T',cap',fr',h1,_⟩:=h.tip i k' sz' hi
      rw[h1] at hg;cases hg
      exact hgrow _ _ hi
  have f:Fut G w G' (w.alloc (.cells us T fr)):=by
    refine Fut.mk' (calm_alloc w _) (fun _ _ h=>h) (fun j B v' k cap hg=>?_) (fun B=>?_) (fun B o ho=>?_) (fun _ _ h=>h)
    · by_cases e:j=i
      · subst e
        have:=oldtip B v' k cap hg
        exact⟨w.heap.size,v,n,c,upd_same _ _ _,by omega,fun e=>by omega⟩
      · refine⟨B,v',k,cap,(upd_ne _ _ e).trans hg,Nat.le_refl _,fun _=>⟨rfl,rfl,rfl,?_⟩⟩
        have:=h.tlt j B v' k cap hg
        show (if B=w.heap.size then (n - v)*sz else G.mark B)=_
        rw[if_neg (by omega)]
    · show G.mark B≤if B=w.heap.size then (n - v)*sz else G.mark B
      split
      · rename_i e;subst e;omega
      · exact Nat.le_refl _
    · have hlt:B<w.heap.size:=by
        rcases Nat.lt_or_ge B w.heap.size with hB | hB
        · exact hB
        · rw[h.new B hB] at ho;omega
      exact World.cell?_alloc_lt w _ ⟨B,o,none⟩ hlt
  have heapnew:(w.alloc (.cells us T fr)).heap[w.heap.size]?=some (.cells us T fr):=heap_alloc_self
  refine⟨G',⟨fun k s hs=>(h.env k s hs).fut f,h.size,h.few,fun b cs hb ho=>?_,h.inj,fun j k sz' hj=>?_,fun j j' B v1 k c1 v2 k' c2 e1 e2=>?_,fun j B v1 k c1 hj=>?_,fun j b B v1 k c1 hj hb e2=>?_,fun b hb=>?_,fun B hB=>?_,fun B hB=>?_,hk.below,h.defers,fun g x hg=>(h.glob g x hg).fut f,h.more.fut f (calm_alloc w _) (fun _ _ _ h1 h2=>⟨h1,h2,rfl⟩) (fun B o hB _=>if_neg (Nat.ne_of_lt (lt_of_heap hB))) (fun b hb=>h.more.ofresh b (hF b hb)) rfl (fun _ B hlt=>by
      by_cases e:B=w.heap.size
      · subst e;rw[show fr=(0,0) from hfr] at heapnew ⊢;exact .inl ⟨us,T,heapnew⟩
      · rw[show G'.mark B=G.mark B from if_neg e] at hlt;exact absurd hlt (Nat.lt_irrefl _))⟩,f,if_pos rfl,upd_same _ _ _,fun B hB=>if_neg hB⟩
  · obtain⟨B,us',T',h1,h2,h3,h4,h5,hu0,h6⟩:=hk.box b cs hb ho
    obtain⟨B0,us0,T0,g1,g2,_⟩:=h.box b cs hb ho
    have hlt:=lt_of_heap g2
    obtain rfl:B=B0:=Option.some.inj (h1.symm.trans g1)
    refine⟨B,us',T',h1,h2,h3,?_,h5,hu0,fun j hj hj'=>⟨(h6 j hj hj').1,?_⟩⟩
    · show (if B=w.heap.size then (n - v)*sz else G.mark B)=0
      rw[if_neg (by omega)];exact h4
    · obtain⟨B1,us1,T1,k1,k2,k3,k4,k5,ku0,k6⟩:=h.box b cs hb ho
      obtain rfl:B=B1:=Option.some.inj (h1.symm.trans k1)
      have e2:(w.alloc (.cells us T fr)).heap[B]?=w.heap[B]?:=heap_alloc_lt hlt
      rw[e2,k2] at h2
      simp only[Option.some.injEq,Obj.cells.injEq] at h2
      obtain⟨rfl,_,_⟩:=h2
      exact (k6 j hj (by omega)).2.fut f
  · by_cases e:j=i
    · subst e
      have:k=n∧sz'=sz:=by have:=hj;simp only[St.tipTo,upd_same,Option.some.injEq,Prod.mk.injEq] at this;exact⟨this.1.symm,this.2.symm⟩
      obtain⟨rfl,rfl⟩:=this
      exact⟨w.heap.size,v,us,T,c,fr,upd_same _ _ _,heapnew,hfr,h.below.size,if_pos rfl,hroom,hn,hsz,hc⟩
    · have hj':S.T j=some (k,sz'):=by simpa only [St.tipTo,upd_ne S.T _ e] using hj
      obtain⟨B,v1,us',T',cap,fr',h1,h2,h0,h3,h4,r⟩:=h.tip j k sz' hj'
      have hlt:=h.tlt j B v1 k cap h1
      refine⟨B,v1,us',T',cap,fr',(upd_ne _ _ e).trans h1,(heap_alloc_lt hlt).trans h2,h0,h3,?_,r⟩
      show (if B=w.heap.size then (n - v)*sz else G.mark B)=_
      rw[if_neg (by omega)];exact h4
  · by_cases e:j=i
    · by_cases e':j'=i
      · rw[e,e']
      · exfalso
        subst e
        have a1:some (w.heap.size,v,n,c)=some (B,v1,k,c1):=(upd_same G.tip j _).symm.trans e1
        have a2:=h.tlt j' B v2 k' c2 ((upd_ne _ _ e').symm.trans e2)
        cases a1;omega
    · by_cases e':j'=i
      · exfalso
        subst e'
        have a1:some (w.heap.size,v,n,c)=some (B,v2,k',c2):=(upd_same G.tip j' _).symm.trans e2
        have a2:=h.tlt j B v1 k c1 ((upd_ne _ _ e).symm.trans e1)
        cases a1;omega
      · exact h.tinj j j' B v1 k c1 v2 k' c2 ((upd_ne _ _ e).symm.trans e1) ((upd_ne _ _ e').symm.trans e2)
  · by_cases e:j=i
    · subst e
      have a1:some (w.heap.size,v,n,c)=some (B,v1,k,c1):=(upd_same G.tip j _).symm.trans hj
      cases a1;simp
    · have:=h.tlt j B v1 k c1 ((upd_ne _ _ e).symm.trans hj)
      simp;omega
  · by_cases e:j=i
    · subst e
      have a1:some (w.heap.size,v,n,c)=some (B,v1,k,c1):=(upd_same G.tip j _).symm.trans hj
      obtain⟨cs,hcs⟩:=Option.ne_none_iff_exists'.1 hb
      obtain⟨B0,us0,T0,g1,g2,_⟩:=h.box b cs hcs (h.boxOf hcs e2)
      obtain rfl:B0=B:=Option.some.inj (g1.symm.trans e2)
      have:=lt_of_heap g2
      cases a1;omega
    · exact h.tbox j b B v1 k c1 ((upd_ne _ _ e).symm.trans hj) hb e2
  · have hb':=h.fresh b (hF b hb)
    refine⟨hb'.1,?_⟩
    have hne:b≠i:=by
      rcases hi with ⟨_,h2⟩ | ⟨k,sz',hk'⟩
      · exact h2 b hb
      · rintro rfl
        obtain⟨B,_,_,_,cap,_,h1,_⟩:=h.tip b k sz' hk'
        rw[hb'.2] at h1;cases h1
    exact (upd_ne _ _ hne).trans hb'.2
  · show (if B=w.heap.size then (n - v)*sz else G.mark B)=0
    simp at hB
    rw[if_neg (by omega)];exact h.new B (by omega)
  · show (if B=w.heap.size then (n - v)*sz else G.mark B)=m0 B
    have:=h.below.size
    rw[if_neg (by omega)];exact h.low B hB
theorem Rel.grow_tip (h:Rel m0 w0 G E S F a w) {i v k n B cap sz:Nat}{us news:List Value}{T:TypeId}{fr:Nat×Nat} (hi:S.T i=some (k,sz)) (hg:G.tip i=some (B,v,k,cap)) (hB:w.heap[B]?=some (.cells us.toArray T fr)) (hfr:unf fr us.length) (hBw:w0.heap.size≤B)
    (hm:G.mark B=(k - v)*sz) (hroom:(cap - v)*sz≤us.length) (hv:v≤k) (hsz:0<sz) (hkn:k<n) (hnc:n≤cap) (hnews:(k - v)*sz+news.length=(n - v)*sz) {w1:World}
    (hw:w1=w.setRow B (us.take ((k - v)*sz)++news++us.drop ((k - v)*sz+news.length)).toArray) :
    ∃ G',Rel m0 w0 G' E (S.tipTo i n sz) F a w1∧Fut G w G' w1∧G'.mark B=(n - v)*sz∧G'.tip i=some (B,v,n,cap)∧(∀ X,X≠B→G'.mark X=G.mark X)∧(∀ j u,news[j]?=some u→w1.cell? ⟨B,(k - v)*sz+j,none⟩=some u):=by
  subst hw
  have hfit:(n - v)*sz≤us.length:=Nat.le_trans (Nat.mul_le_mul_right _ (by omega)) hroom
  have hkle:(k - v)*sz<(n - v)*sz:=Nat.mul_lt_mul_of_pos_right (by omega) hsz
  generalize hK:(k - v)*sz=K at *
  generalize hN:(n - v)*sz=N at *
  let G':Gh:=⟨G.box,upd G.tip i (B,v,n,cap),fun X=>if X=B then N else G.mark X,G.obj⟩
  generalize hW:w.setRow B (us.take K++news++us.drop (K+news.length)).toArray=W
  have hother:∀ X,X≠B→W.heap[X]?=w.heap[X]?:=by
    intro X hX;subst hW
    simp only[World.setRow,Array.getElem?_modify]
    rw[if_neg (fun e=>hX e.symm)]
  have hsize:W.heap.size=w.heap.size:=by subst hW;simp[World.setRow]
  have hnew:W.heap[B]?=some (.cells (us.take K++news++us.drop (K+news.length)).toArray T fr):=by subst hW;exact setRow_heap w B _ _ T fr hB
  have hget:∀ j,W.cell? ⟨B,j,none⟩=if j<K then us[j]? else if j<K+news.length then news[j - K]? else us[j]?:=by
    intro j
    rw[cell_of_heap hnew]
    have:=three_get (l:=us) (m:=news) (off:=K) (n:=news.length) rfl (by omega) j
    simpa using this
  have hold:∀ j,w.cell? ⟨B,j,none⟩=us[j]?:=fun j=>by rw[cell_of_heap hB];simp
  have hBlt:=lt_of_heap hB
  have hcalm:Calm w W:=calm_row hB hnew (by simp;omega) hother
  have f:Fut G w G' W:=by
    refine Fut.mk' hcalm (fun _ _ h=>h) (fun j X v' k' cap' hj=>?_) (fun X=>?_) (fun X o ho=>?_) (fun _ _ h=>h)
    · by_cases e:j=i
      · subst e
        rw[hg] at hj;cases hj
        exact⟨B,v,n,cap,upd_same _ _ _,by omega,fun e=>by omega⟩
      · refine⟨X,v',k',cap',(upd_ne _ _ e).trans hj,Nat.le_refl _,fun _=>⟨rfl,rfl,rfl,?_⟩⟩
        show (if X=B then N else G.mark X)=G.mark X
        by_cases eX:X=B
        · subst eX;exact absurd (h.tinj j i X v' k' cap' v k cap hj hg) e
        · rw[if_neg eX]
    · show G.mark X≤if X=B then N else G.mark X
      split
      · rename_i e;subst e;rw[hm];omega
      · exact Nat.le_refl _
    · by_cases e:X=B
      · subst e
        rw[hm] at ho
        rw[hget o,if_pos ho,hold o]
      · simp only[World.cell?,hother X e]
  refine⟨G',⟨fun j s hs=>(h.env j s hs).fut f,h.size,h.few,fun b cs hb ho=>?_,h.inj,fun j k' sz' hj=>?_,fun j j' X v1 k1 c1 v2 k2 c2 e1 e2=>?_,fun j X v1 k1 c1 hj=>?_,fun j b X v1 k1 c1 hj hb e2=>?_,fun b hb=>?_,fun X hX=>?_,fun X hX=>?_,?_,h.defers,fun g x hg=>(h.glob g x hg).fut f,h.more.fut f hcalm (fun _ _ _ h1 h2=>⟨h1,h2,rfl⟩) (fun X o hX ho=>if_neg (fun e=>by
      subst e
      rw[hB] at hX;cases hX
      exact ho _ _ _ rfl)) (fun b hb=>h.more.ofresh b hb) rfl (fun _ X hlt=>by
      by_cases e:X=B
      · subst e;rw[show fr=(0,0) from hfr] at hnew;exact .inl ⟨_,T,hnew⟩
      · rw[show G'.mark X=G.mark X from if_neg e] at hlt;exact absurd hlt (Nat.lt_irrefl _))⟩,f,if_pos rfl,upd_same _ _ _,fun X hX=>if_neg hX,fun j v hj=>?_⟩
  · obtain⟨X,us',T',h1,h2,h3,h4,h5,hu0,h6⟩:=h.box b cs hb ho
    have hne:X≠B:=fun e=>by subst e;exact h.tbox i b X v k cap hg (by rw[show S.B b=some cs from hb];simp) h1
    exact⟨X,us',T',h1,(hother X hne).trans h2,h3,(if_neg hne).trans h4,h5,hu0,fun j hj hj'=>⟨(h6 j hj hj').1,(h6 j hj hj').2.fut f⟩⟩
  · by_cases e:j=i
    · subst e
      have:k'=n∧sz'=sz:=by have:=hj;simp only[St.tipTo,upd_same,Option.some.injEq,Prod.mk.injEq] at this;exact⟨this.1.symm,this.2.symm⟩
      obtain⟨rfl,rfl⟩:=this
      exact⟨B,v,_,T,cap,fr,upd_same _ _ _,hnew,(by have e:us.length=(us.take K++news++us.drop (K+news.length)).toArray.size:=(by simp;omega);rw[← e];exact hfr),hBw,(if_pos rfl).trans hN.symm,by simp;omega,by omega,hsz,hnc⟩
    · have hj':S.T j=some (k',sz'):=by simpa only [St.tipTo,upd_ne S.T _ e] using hj
      obtain⟨X,v',us',T',cap',fr',h1,h2,h0,h3,h4,r⟩:=h.tip j k' sz' hj'
      have hne:X≠B:=fun eX=>by subst eX;exact e (h.tinj j i X v' k' cap' v k cap h1 hg)
      exact⟨X,v',us',T',cap',fr',(upd_ne _ _ e).trans h1,(hother X hne).trans h2,h0,h3,(if_neg hne).trans h4,r⟩
  · have back:∀ j X v1 k1 c1,G'.tip j=some (X,v1,k1,c1)→∃ v2 k2 c2,G.tip j=some (X,v2,k2,c2):=by
      intro j X v1 k1 c1 hj
      by_cases e:j=i
      · subst e
        have a1:some (B,v,n,cap)=some (X,v1,k1,c1):=(upd_same G.tip j _).symm.trans hj
        cases a1;exact⟨v,k,cap,hg⟩
      · exact⟨v1,k1,c1,(upd_ne _ _ e).symm.trans hj⟩
    obtain⟨_,_,_,b1⟩:=back j X v1 k1 c1 e1
    obtain⟨_,_,_,b2⟩:=back j' X v2 k2 c2 e2
    exact h.tinj j j' X _ _ _ _ _ _ b1 b2
  · by_cases e:j=i
    · subst e
      have a1:some (B,v,n,cap)=some (X,v1,k1,c1):=(upd_same G.tip j _).symm.trans hj
      cases a1;omega
    · have:=h.tlt j X v1 k1 c1 ((upd_ne _ _ e).symm.trans hj);omega
  · by_cases e:j=i
    · subst e
      have a1:some (B,v,n,cap)=some (X,v1,k1,c1):=(upd_same G.tip j _).symm.trans hj
      cases a1
      exact h.tbox j b B v k cap hg hb e2
    · exact h.tbox j b X v1 k1 c1 ((upd_ne _ _ e).symm.trans hj) hb e2
  · obtain⟨b1,b2⟩:=h.fresh b hb
    refine⟨b1,?_⟩
    have hne:b≠i:=by rintro rfl;rw[hg] at b2;cases b2
    exact (upd_ne _ _ hne).trans b2
  · show (if X=B then N else G.mark X)=0
    rw[if_neg (by omega)];exact h.new X (by omega)
  · show (if X=B then N else G.mark X)=m0 X
    rw[if_neg (by omega)];exact h.low X hX
  · refine h.below.trans ⟨?_,?_,?_,by omega,fun X hX=>hother X (by omega)⟩<;>(subst hW;rfl)
  · obtain⟨hlt,_⟩:=List.getElem?_eq_some_iff.1 hj
    rw[hget,if_neg (by omega),if_pos (by omega),Nat.add_sub_cancel_left]
    exact hj
def appOf (P:Program) (T:TypeId):Option (TypeId×Nat×Nat) :=
  match P.underlying T with
  | some (.slice e)=>match P.info? e with
    | some i=>match i.zero with
      | some z=>if z.cells.size=i.size∧0<i.size then some (e,i.size,i.bytes) else none
      | none=>none
    | none=>none
  | _=>none
theorem appOf_ok {T e:TypeId}{sz by_:Nat} (h:appOf P T=some (e,sz,by_)):P.underlying T=some (.slice e)∧∃ i z,P.info? e=some i∧i.zero=some z∧z.cells.size=sz∧i.size=sz∧i.bytes=by_∧0<sz:=by
  unfold appOf at h
  split at h
  · rename_i e' hu
    split at h
    · rename_i i hi
      split at h
      · rename_i z hz
        split at h
        · rename_i hc
          simp only[Option.some.injEq,Prod.mk.injEq] at h
          obtain⟨rfl,rfl,rfl⟩:=h
          exact⟨hu,i,z,hi,hz,hc.1,rfl,rfl,hc.2⟩
        · cases h
      · cases h
    · cases h
  · cases h
theorem run_append_none {T e ty:TypeId}{sz by_:Nat} (h:appOf P T=some (e,sz,by_)) {A A':Option Addr}{n c c':Nat} (hn:n≤c) (hA:A'=none∨∃ b,A'=some b) :
    (Builtin.append_ #[T,T] ty #[.slice A n c, .slice A' 0 c']).run P w=.ok (.slice A n c) w:=by
  obtain⟨hu,i,z,hi,hz,h1,h2,h3,h4⟩:=appOf_ok h
  cases A with
  | none=>cases A'<;>simp[Builtin.append_,run_under hu,sizeOf,typeInfo,hi,Builtin.lenOf,hn,Builtin.firstCells,loadCells,loadCellsFrom]
  | some b=>cases A'<;>simp[Builtin.append_,run_under hu,sizeOf,typeInfo,hi,Builtin.lenOf,hn,Builtin.firstCells,loadCells,loadCellsFrom,storeCells]
theorem run_append_room2 {t ty e:TypeId}{i:TypeInfo} (ht:P.underlying t=some (.slice e)) (hi:P.info? e=some i)
    (g o sLen sCap:Nat) (cur:Array Value) (T:TypeId) {fr:Nat×Nat} (hg:w.heap[g]?=some (.cells cur T fr)) (hfr:unf fr cur.size)
    (a:Addr) (m c:Nat) (news:List Value) (hl:news.length=m*i.size) (hnews:∀ j u,news[j]?=some u→w.cell? (a.add j)=some u) (h1:∀ u∈news,u.oneCell'=true)
    (hroom:sLen+m≤sCap) (hfit:o+sLen*i.size+news.length≤cur.size) :
    (Builtin.append_ #[t,t] ty #[.slice (some ⟨g,o,none⟩) sLen sCap, .slice (some a) m c]).run P w =
      .ok (.slice (some ⟨g,o,none⟩) (sLen+m) sCap) (w.setRow g (cur.toList.take (o+sLen*i.size)++news++cur.toList.drop (o+sLen*i.size+news.length)).toArray):=by
  have hf:=run_firstCells_some (P:=P) w i.size m a m c news hl hnews
  have hst:=run_storeCells_fr (P:=P) g (o+sLen*i.size) T fr news 0 cur w hg hfr (by simpa using hfit) h1
  simp only[Nat.add_zero] at hst
  simp[Builtin.append_,run_under ht,sizeOf,typeInfo,hi,Builtin.lenOf,hroom,hf,add_off,hst]
theorem run_builtin_append {x y:Operand}{T:TypeId}{u v r:Value}{w':World} (ho:o.op=.call { callee:=.builtin .append,args:=#[x,y],argTypes:=#[T,T] }) (hx:a.eval x=u) (hy:a.eval y=v)
    (h:(Builtin.append_ #[T,T] o.type #[u,v]).run P w=.ok r w'):(execOp a.eval o).run P w=.ok (.value r) w':=by
  simp only[execOp,ho]
  simp[resolve,invoke,builtin,hx,hy,h]
theorem does_append_none {x y:Operand}{T e:TypeId}{sz by_:Nat}{s t:SV}{cs ds:List D}{n:Nat} (ho:o.op=.call { callee:=.builtin .append,args:=#[x,y],argTypes:=#[T,T] }) (h:Rel m0 w0 G E S F a w)
    (hx:evalO E x=some s) (hy:evalO E y=some t) (hs:rowS s=some (cs,n)) (ht:rowS t=some (ds,0)) (hT:appOf P T=some (e,sz,by_)):Does P m0 w0 G E S F a w o s S F:=by
  have hX:=evalO_ok h hx
  obtain⟨A,c,e1,hn⟩:=(rowS_ok hs hX).slice_inv
  obtain⟨A',c',e2,_⟩:=(rowS_ok ht (evalO_ok h hy)).slice_inv
  refine .quiet h (u:=.slice A n c) (run_builtin_append ho e1 e2 (run_append_none hT hn (by cases A'<;>simp))) (by rw[← e1];exact hX)
theorem PV.cells' {m:Nat→Nat}{cs:List D}{n n' B o' c:Nat} (h:PV m w (.ps cs n) (.slice (some ⟨B,o',none⟩) n' c)) :
    ∃ us:List Value,us.length=cs.length∧(∀ j v,us[j]?=some v→o'+j<m B∧w.cell? ⟨B,o'+j,none⟩=some v)∧∀ j (h:j<cs.length) (h':j<us.length),(cs[j]).cell=true∧PV m w cs[j] us[j]:=by
  cases h with
  | pz h=>exact absurd rfl h
  | ps us hn hc hk hv =>
    refine⟨(List.range cs.length).map us,by simp,fun j v hj=>?_,fun j hj hj'=>⟨hk j hj,by simpa using hv j hj⟩⟩
    obtain⟨hlt,he⟩:=List.getElem?_eq_some_iff.1 hj
    have hj2:j<cs.length:=by simpa using hlt
    have he':us j=v:=by simpa using he
    rw[← he']
    exact hc j hj2
theorem new_cells {G':Gh}{w1:World} (f:Fut G w G' w1) {B n c:Nat}{cs ds:List D}{us vs:List Value}{zs:Array Value}{T:TypeId} (hl:us.length=cs.length) (hm:vs.length=ds.length) (hn:n≤c)
    (h1:∀ j (h:j<cs.length) (h':j<us.length),(cs[j]).cell=true∧PV G.mark w cs[j] us[j]) (h2:∀ j (h:j<ds.length) (h':j<vs.length),(ds[j]).cell=true∧PV G.mark w ds[j] vs[j])
    (hB:w1.heap[B]?=some (.cells (us.toArray++vs.toArray++zs) T (0,0))) (hmark:us.length+vs.length≤G'.mark B):PV G'.mark w1 (.ps (cs++ds) n) (.slice (some ⟨B,0,none⟩) n c):=by
  refine PV.mk (us:=us++vs) (by simp[hl,hm]) hn (fun j v hj=>?_) (PV.both hl hm (fun j hj hj'=>⟨(h1 j hj hj').1,(h1 j hj hj').2.fut f⟩) (fun j hj hj'=>⟨(h2 j hj hj').1,(h2 j hj hj').2.fut f⟩))
  obtain⟨hlt,_⟩:=List.getElem?_eq_some_iff.1 hj
  simp only[List.length_append] at hlt
  refine⟨by omega,?_⟩
  rw[Nat.zero_add,cell_of_heap hB,Array.getElem?_append_left (by simp;omega)]
  simpa using hj
theorem run_append_fl {x y:Operand}{T e:TypeId}{sz by_:Nat}{t:SV}{cs ds:List D}{n m:Nat} (ho:o.op=.call { callee:=.builtin .append,args:=#[x,y],argTypes:=#[T,T] }) (h:Rel m0 w0 G E S F a w)
    (hx:evalO E x=some (.fl cs n)) (hy:evalO E y=some t) (ht:rowS t=some (ds,m)) (hT:appOf P T=some (e,sz,by_)) (hm:0<m) (hcs:cs.length=n*sz) (hds:ds.length=m*sz)
    (hb:(n+m)*by_≤140737488355328) (hb2:n+m≤140737488355328):∃ (us vs:List Value) (zs:Array Value) (c:Nat),us.length=cs.length∧vs.length=ds.length ∧
      (∀ j (h:j<cs.length) (h':j<us.length),(cs[j]).cell=true∧PV G.mark w cs[j] us[j])∧(∀ j (h:j<ds.length) (h':j<vs.length),(ds[j]).cell=true∧PV G.mark w ds[j] vs[j]) ∧
      n+m≤c∧c*sz≤us.length+vs.length+zs.size ∧
      (execOp a.eval o).run P w=.ok (.value (.slice (some ⟨w.heap.size,0,none⟩) (n+m) c)) (w.drew.alloc (.cells (us.toArray++vs.toArray++zs) e)):=by
  obtain⟨hu,i,z,hi,hz,h1,h2,h3,h4⟩:=appOf_ok hT
  have hX:=evalO_ok h hx
  have hdl:0<ds.length:=by rw[hds];exact Nat.mul_pos hm h4
  obtain⟨By,oy,cy,e2,_,vs,hvl,hvc,hvv⟩:=(rowS_ok ht (evalO_ok h hy)).cells hdl
  have hvc':∀ j v,vs[j]?=some v→w.cell? ((⟨By,oy,none⟩:Addr).add j)=some v:=fun j v hj=>by rw[add_off];exact (hvc j v hj).2
  have hvl2:vs.length=m*i.size:=by rw[hvl,hds,h2]
  generalize hA:a.eval x=A at hX
  cases hX with
  | fl hp hcap =>
    cases hp with
    | nil =>
      have hr:=run_append_nil (P:=P) w T o.type e i z hu hi hz ⟨By,oy,none⟩ m cy vs hvl2 hvc' hm (by omega) (by rw[h3];simp only[Nat.zero_add] at hb;omega)
      have hr2:=run_builtin_append ho hA e2 hr
      refine⟨[],vs,Builtin.zeroCells z.cells (grownCap w m 0 e - m),grownCap w m 0 e,rfl,hvl,fun j hj=>by simp at hj,hvv,by have:=grownCap_ge w m 0 e;omega,?_,by simpa using hr2⟩
      have:=grownCap_ge w m 0 e
      rw[size_zeroCells,h1,hvl,hds,List.length_nil,Nat.zero_add, ← Nat.add_mul]
      exact Nat.mul_le_mul_right _ (by omega)
    | pz hsp =>
      rename_i a0
      have hr:=run_append_grow (P:=P) w T o.type e i z hu hi hz a0 0 0 [] (by simp) (fun j v hj=>by simp at hj) ⟨By,oy,none⟩ m cy vs hvl2 hvc' (by omega) (by omega) (growslice_fits (by omega) (by rw[h3];simpa using hb))
      have hr2:=run_builtin_append ho hA e2 hr
      refine⟨[],vs,_,_,by simp,hvl,fun j hj=>by simp at hj,hvv,grownCap_ge w (0+m) 0 e,?_,hr2⟩
      have:=grownCap_ge w (0+m) 0 e
      simp only[Nat.zero_add] at this ⊢
      rw[size_zeroCells,h1,hvl,hds,List.length_nil,Nat.zero_add, ← Nat.add_mul]
      exact Nat.mul_le_mul_right _ (by omega)
    | ps us hn hc hk hv =>
      rename_i B o' c
      have hcn:c=n:=hcap _ _ _ rfl
      subst hcn
      have hr:=run_append_grow (P:=P) w T o.type e i z hu hi hz ⟨B,o',none⟩ c c ((List.range cs.length).map us) (by simp[hcs,h2]) (fun j v hj=>by
        obtain⟨hlt,he⟩:=List.getElem?_eq_some_iff.1 hj
        have hj2:j<cs.length:=by simpa using hlt
        rw[add_off,(hc j hj2).2]
        simpa using he) ⟨By,oy,none⟩ m cy vs hvl2 hvc' (by omega) (by omega) (growslice_fits (by omega) (by rw[h3];exact hb))
      have hr2:=run_builtin_append ho hA e2 hr
      refine⟨_,vs,_,_,by simp,hvl,fun j hj hj'=>⟨hk j hj,by simpa using hv j hj⟩,hvv,grownCap_ge w (c+m) c e,?_,hr2⟩
      have:=grownCap_ge w (c+m) c e
      rw[size_zeroCells,h1,hvl,hds,List.length_map,List.length_range,hcs, ← Nat.add_mul, ← Nat.add_mul]
      exact Nat.mul_le_mul_right _ (by omega)
theorem does_append_new {x y:Operand}{T e:TypeId}{sz by_:Nat}{t:SV}{cs ds:List D}{n m id:Nat} (ho:o.op=.call { callee:=.builtin .append,args:=#[x,y],argTypes:=#[T,T] }) (h:Rel m0 w0 G E S F a w) (hid:F id)
    (hx:evalO E x=some (.fl cs n)) (hy:evalO E y=some t) (ht:rowS t=some (ds,m)) (hT:appOf P T=some (e,sz,by_)) (hm:0<m) (hcs:cs.length=n*sz) (hds:ds.length=m*sz)
    (hb:(n+m)*by_≤140737488355328) (hb2:n+m≤140737488355328):Does P m0 w0 G E S F a w o (.tp id 0 (cs++ds) (n+m)) (S.tipTo id (n+m) sz) (fun b=>F b∧b≠id):=by
  obtain⟨us,vs,zs,c,hul,hvl,huv,hvv,hc,hroom,hrun⟩:=run_append_fl ho h hx hy ht hT hm hcs hds hb hb2
  have h4:0<sz:=(appOf_ok hT).2.choose_spec.choose_spec.2.2.2.2.2
  have hfi:=h.fresh id hid
  obtain⟨G',g1,f,g2,g3,g4⟩:=h.draw.new_tip (i:=id) (F':=fun b=>F b∧b≠id) (fun b hb=>hb.1) (.inl ⟨hid,fun b hb=>hb.2⟩) (us:=us.toArray++vs.toArray++zs) (T:=e) (v:=0) (n:=n+m) (c:=c) (sz:=sz) (fr:=(0,0)) rfl (rfl) h4 (by omega) hc (by simpa[Nat.add_assoc] using hroom)
    (fun k sz' hk=>by obtain⟨B,_,_,_,cap,_,k1,_⟩:=h.tip id k sz' hk;rw[hfi.2] at k1;cases k1)
  have f:=(fut_draw G w).trans f
  have hlen:us.length+vs.length=(n+m)*sz:=by rw[hul,hcs,hvl,hds,Nat.add_mul]
  have g2:G'.mark w.heap.size=(n+m)*sz:=g2
  refine⟨_,_,_,G',hrun, .inl rfl, .tp (new_cells f hul hvl hc huv hvv (heap_alloc_self (w:=w.drew)) (by rw[hlen];exact Nat.le_of_eq g2.symm)) g3 (by omega) (fun _=>⟨rfl,Nat.le_refl _,rfl,sz,fun _=>by simp,?_,h4⟩),g1,f⟩
  show G'.mark w.heap.size=_
  rw[g2];rfl
theorem does_append_var {x y:Operand}{T e:TypeId}{sz by_:Nat}{t:SV}{cs ds:List D}{n m id:Nat} (ho:o.op=.call { callee:=.builtin .append,args:=#[x,y],argTypes:=#[T,T] }) (h:Rel m0 w0 G E S F a w) (hid:F id)
    (hx:evalO E x=some (.fl cs n)) (hy:evalO E y=some t) (ht:rowS t=some (ds,m)) (hT:appOf P T=some (e,sz,by_)) (hm:0<m) (hcs:cs.length=n*sz) (hds:ds.length=m*sz)
    (hb:(n+m)*by_≤140737488355328) (hb2:n+m≤140737488355328):Does P m0 w0 G E S F a w o (.os id 0 (n+m)) (S.new id ((cs++ds).map .d)) (fun b=>F b∧b≠id):=by
  obtain⟨us,vs,zs,c,hul,hvl,huv,hvv,hc,hroom,hrun⟩:=run_append_fl ho h hx hy ht hT hm hcs hds hb hb2
  obtain⟨G',g1,f,g2⟩:=h.draw.new_box (id:=id) hid ((cs++ds).map .d) (us.toArray++vs.toArray++zs) e (by simp[hul,hvl]) (fun j hj hj'=>by
    have hj2:j<(cs++ds).length:=by simpa using hj
    have hj3:j<(us++vs).length:=by simp only[List.length_append] at hj2 ⊢;omega
    have:=PV.both hul hvl (fun j hj hj'=>⟨(huv j hj hj').1,(huv j hj hj').2.fut (fut_draw G w)⟩) (fun j hj hj'=>⟨(hvv j hj hj').1,(hvv j hj hj').2.fut (fut_draw G w)⟩) j hj2 hj3
    have e1:((cs++ds).map SV.d)[j]=.d (cs++ds)[j]:=List.getElem_map ..
    have e2:(us.toArray++vs.toArray++zs)[j]=(us++vs)[j]:=by
      rw[Array.getElem_append_left (by simpa using hj3)]
      simp
    rw[e1,e2]
    exact⟨this.1, .d this.2⟩)
  exact⟨_,_,_,G',hrun, .inl rfl, .os g2 hc,g1,(fut_draw G w).trans f⟩
theorem VR.tp_inv {i q:Nat}{cs:List D}{n:Nat}{u:Value} (h:VR G w (.tp i q cs n) u):∃ B o' c B' v k cap,u=.slice (some ⟨B,o',none⟩) n c∧PV G.mark w (.ps cs n) (.slice (some ⟨B,o',none⟩) n c)∧G.tip i=some (B',v,k,cap) ∧
    (q+n=k→B'=B∧v≤q∧c+q=cap∧∃ sz,(0<c→o'=(q - v)*sz)∧G.mark B=(k - v)*sz∧0<sz):=by
  cases h with
  | tp h ht hn he=>exact⟨_,_,_,_,_,_,_,rfl,h,ht,he⟩
theorem does_append_tip {x y:Operand}{T e:TypeId}{sz by_:Nat}{t:SV}{cs ds:List D}{n m i q:Nat} (ho:o.op=.call { callee:=.builtin .append,args:=#[x,y],argTypes:=#[T,T] }) (h:Rel m0 w0 G E S F a w)
    (hx:evalO E x=some (.tp i q cs n)) (hi:S.T i=some (q+n,sz)) (hy:evalO E y=some t) (ht:rowS t=some (ds,m)) (hT:appOf P T=some (e,sz,by_)) (hcs:cs.length=n*sz) (hds:ds.length=m*sz)
    (hb:(n+m)*by_≤140737488355328) (hb2:n+m≤140737488355328):Does P m0 w0 G E S F a w o (.tp i q (cs++ds) (n+m)) (S.tipTo i (q+(n+m)) sz) F:=by
  rcases Nat.eq_zero_or_pos m with hm0 | hm
  · subst hm0
    have hd0:ds=[]:=by simpa using hds
    subst hd0
    have:=does_append_none ho h hx hy rfl ht hT
    have e1:S.tipTo i (q+(n+0)) sz=S:=by
      unfold St.tipTo
      have:upd S.T i (q+(n+0),sz)=S.T:=by
        funext j
        by_cases e:j=i
        · subst e;rw[upd_same,Nat.add_zero,hi]
        · rw[upd_ne _ _ e]
      rw[this]
    rw[e1,List.append_nil]
    exact this
  obtain⟨hu,inf,z,hinf,hz,h1,h2,h3,h4⟩:=appOf_ok hT
  have hX:=evalO_ok h hx
  have hdl:0<ds.length:=by rw[hds];exact Nat.mul_pos hm h4
  obtain⟨By,oy,cy,e2,_,vs,hvl,hvc,hvv⟩:=(rowS_ok ht (evalO_ok h hy)).cells hdl
  have hvc':∀ j v,vs[j]?=some v→w.cell? ((⟨By,oy,none⟩:Addr).add j)=some v:=fun j v hj=>by rw[add_off];exact (hvc j v hj).2
  have hvl2:vs.length=m*inf.size:=by rw[hvl,hds,h2]
  have hv1:∀ u∈vs,u.oneCell'=true:=fun u hu=>by
    obtain⟨j,hj,rfl⟩:=List.getElem_of_mem hu
    obtain⟨g1,g2⟩:=hvv j (by omega) hj
    exact g2.one g1
  obtain⟨B,v,ws,Tb,cap,fr,t1,t2,t0,t3,t4,t5,t6,t7,t8⟩:=h.tip i (q+n) sz hi
  obtain⟨B1,o1,c1,B2,v2,k2,cap2,hA,hp,htip,he⟩:=hX.tp_inv
  rw[t1] at htip
  simp only[Option.some.injEq,Prod.mk.injEq] at htip
  obtain⟨rfl,rfl,rfl,rfl⟩:=htip
  obtain⟨e1,hvq,hcap,sz2,ho1,hmk,hsz2⟩:=he rfl
  subst e1
  obtain⟨us,hul,huc,huv⟩:=hp.cells'
  have hou:0<c1→o1=(q - v)*sz:=by
    intro hc1
    rcases Nat.eq_zero_or_pos (q+n - v) with e0 | e0
    · have:q - v=0:=by omega
      rw[ho1 hc1,this];simp
    · have:(q+n - v)*sz2=(q+n - v)*sz:=by rw[← hmk,t4]
      rw[ho1 hc1,Nat.eq_of_mul_eq_mul_left e0 this]
  have hsum:(q - v)*sz+n*sz=(q+n - v)*sz:=by rw[← Nat.add_mul];congr 1;omega
  have hsum2:(q+n - v)*sz+m*sz=(q+(n+m) - v)*sz:=by rw[← Nat.add_mul];congr 1;omega
  have hcn:n≤c1:=by omega
  by_cases hroom:n+m≤c1
  · -- in place
    have hou:=hou (by omega)
    have hfit:(q+n - v)*sz+vs.length≤ws.size:=by
      rw[hvl,hds,hsum2]
      exact Nat.le_trans (Nat.mul_le_mul_right _ (by omega)) t5
    have hr:=run_append_room2 (P:=P) (ty:=o.type) hu hinf B o1 n c1 ws Tb t2 t0 ⟨By,oy,none⟩ m cy vs hvl2 hvc' hv1 hroom (by rw[h2,hou,hsum];exact hfit)
    have hr2:=run_builtin_append ho hA e2 hr
    rw[h2,hou,hsum] at hr2
    obtain⟨G',g1,f,g2,g3,g4,g5⟩:=h.grow_tip (i:=i) (v:=v) (k:=q+n) (n:=q+(n+m)) (B:=B) (cap:=cap) (sz:=sz) (us:=ws.toList) (news:=vs) (T:=Tb) hi t1 (by simpa using t2) (by simpa using t0) t3 t4 (by simpa using t5) t6 h4 (by omega) (by omega) (by rw[hvl,hds,hsum2]) rfl
    refine⟨_,_,_,G',hr2, .inl rfl, .tp (PV.mk (us:=us++vs) (by simp[hul,hvl]) hroom (fun j u hj=>?_) (PV.both hul hvl (fun j hj hj'=>⟨(huv j hj hj').1,(huv j hj hj').2.fut f⟩) (fun j hj hj'=>⟨(hvv j hj hj').1,(hvv j hj hj').2.fut f⟩))) g3 (Nat.le_refl _) (fun _=>⟨rfl,hvq,by omega,sz,fun _=>rfl,g2,h4⟩),g1,f⟩
    obtain⟨hlt,_⟩:=List.getElem?_eq_some_iff.1 hj
    simp only[List.length_append,hul,hvl,hcs,hds] at hlt
    refine⟨by rw[g2, ← hsum2, ← hsum];omega,?_⟩
    rcases Nat.lt_or_ge j us.length with hj1 | hj1
    · rw[List.getElem?_append_left hj1] at hj
      have:=huc j u hj
      rw[hou] at this
      rw[f.cell B _ this.1];exact this.2
    · rw[List.getElem?_append_right hj1] at hj
      have:=g5 (j - us.length) u hj
      have e:(q+n - v)*sz+(j - us.length)=(q - v)*sz+j:=by rw[← hsum,hul,hcs];rw[hul,hcs] at hj1;omega
      rw[e] at this;exact this
  · -- a new row
    have hr:=run_append_grow (P:=P) w T o.type e inf z hu hinf hz ⟨B,o1,none⟩ n c1 us (by rw[hul,hcs,h2]) (fun j v hj=>by rw[add_off];exact (huc j v hj).2)
      ⟨By,oy,none⟩ m cy vs hvl2 hvc' (by omega) (by omega) (growslice_fits (by omega) (by rw[h3];exact hb))
    have hr2:=run_builtin_append ho hA e2 hr
    have hge:=grownCap_ge w (n+m) c1 e
    have hlen:us.length+vs.length=(n+m)*sz:=by rw[hul,hcs,hvl,hds,Nat.add_mul]
    obtain⟨G',g1,f,g2,g3,g4⟩:=h.draw.new_tip (i:=i) (F':=F) (fun b hb=>hb) (.inr ⟨_,_,hi⟩) (us:=us.toArray++vs.toArray++Builtin.zeroCells z.cells (grownCap w (n+m) c1 e - (n+m))) (T:=e) (v:=q) (n:=q+(n+m)) (c:=q+grownCap w (n+m) c1 e) (sz:=sz) (fr:=(0,0)) rfl (rfl) h4 (by omega) (by omega) (by
        simp only[Array.size_append,List.size_toArray,size_zeroCells,h1]
        rw[hlen, ← Nat.add_mul]
        exact Nat.mul_le_mul_right _ (by omega)) (fun k sz' hk=>by rw[hi] at hk;cases hk;omega)
    have f:=(fut_draw G w).trans f
    have g2:G'.mark w.heap.size=(q+(n+m) - q)*sz:=g2
    refine⟨_,_,_,G',hr2, .inl rfl, .tp (new_cells f hul hvl hge huv hvv (heap_alloc_self (w:=w.drew)) (by rw[hlen,g2,Nat.add_sub_cancel_left];exact Nat.le_refl _)) g3 (Nat.le_refl _) (fun _=>⟨rfl,Nat.le_refl _,by omega,sz,fun _=>by simp,g2,h4⟩),g1,f⟩
theorem Rel.called {m0:Nat→Nat}{w0:World}{G:Gh}{F:Nat→Prop}{a:Act}{w w':World} (h:Rel m0 w0 G E S F a w) {m':Nat→Nat} (hm:∀ B,B<w.heap.size→m' B=G.mark B) (hm2:∀ B,w'.heap.size≤B→m' B=0) (hcl:S.gl cleanAt≠none→∀ B,w.heap.size≤B→0<m' B→okB w' B (m' B))
    (hb:Below w.heap.size w w'):Rel m0 w0 { G with mark:=m' } E S F a w'∧Fut G w { G with mark:=m' } w':=by
  have hle:∀ B,G.mark B≤m' B:=fun B=>by
    rcases Nat.lt_or_ge B w.heap.size with hB | hB
    · exact Nat.le_of_eq (hm B hB).symm
    · rw[h.new B hB];exact Nat.zero_le _
  have f:Fut G w { G with mark:=m' } w':=by
    refine Fut.mk' (.of_same fun B hB=>hb.block B hB) (fun _ _ h=>h) (fun i B v k cap ht=>⟨B,v,k,cap,ht,Nat.le_refl _,fun _=>⟨rfl,rfl,rfl,hm B (h.tlt i B v k cap ht)⟩⟩) hle (fun B o ho=>?_) (fun _ _ h=>h)
    rcases Nat.lt_or_ge B w.heap.size with hB | hB
    · exact hb.cell (p:=⟨B,o,none⟩) hB
    · rw[h.new B hB] at ho;omega
  refine⟨⟨fun k s hk=>(h.env k s hk).fut f,h.size,h.few,fun b cs hbx ho=>?_,h.inj,fun i k sz hi=>?_,h.tinj,fun i B v k c hi=>Nat.lt_of_lt_of_le (h.tlt i B v k c hi) hb.size,h.tbox,h.fresh,hm2,fun B hB=>?_,?_,h.defers,fun g x hg=>(h.glob g x hg).fut f,h.more.fut f (.of_same fun B hB=>hb.block B hB) (fun _ _ _ h1 h2=>⟨h1,h2,rfl⟩) (fun B o hB _=>hm B (lt_of_heap hB)) h.more.ofresh rfl (fun hg B hlt=>by
    rcases Nat.lt_or_ge B w.heap.size with hB | hB
    · have hlt:G.mark B<m' B:=hlt
      rw[hm B hB] at hlt;exact absurd hlt (Nat.lt_irrefl _)
    · exact hcl hg B hB (Nat.lt_of_le_of_lt (Nat.zero_le _) hlt))⟩,f⟩
  · obtain⟨B,us,T,h1,h2,h3,h4,h5,hu0,h6⟩:=h.box b cs hbx ho
    exact⟨B,us,T,h1,(hb.block B (lt_of_heap h2)).trans h2,h3,(hm B (lt_of_heap h2)).trans h4,h5,hu0,fun j hj hj'=>⟨(h6 j hj hj').1,(h6 j hj hj').2.fut f⟩⟩
  · obtain⟨B,v,us,T,cap,fr,h1,h2,h0,h3,h4,r⟩:=h.tip i k sz hi
    exact⟨B,v,us,T,cap,fr,h1,(hb.block B (lt_of_heap h2)).trans h2,h0,h3,(hm B (lt_of_heap h2)).trans h4,r⟩
  · exact (hm B (Nat.lt_of_lt_of_le hB h.below.size)).trans (h.low B hB)
  · exact h.below.trans (hb.mono h.below.size)
end
end Go.Sh
namespace Go.Sh
open Go.RowKit (Below)
section
variable {P:Program}{m0:Nat→Nat}{w0:World}{G:Gh}{E:Env}{S:St}{F:Nat→Prop}{a:Act}{w:World}{o:Oper}
def D.cells:D→List D
  | .agg cs=>cs
  | x=>[x]
def D.one:D→Bool
  | .agg _=>true
  | x=>x.cell
theorem PV.cellsOf {m:Nat→Nat}{x:D}{u:Value} (h:PV m w x u) (hx:x.one=true):u.cells.size=x.cells.length∧∀ j (h:j<x.cells.length) (h':j<u.cells.size),(x.cells[j]).cell=true∧PV m w x.cells[j] u.cells[j]:=by
  have single:∀ (x:D) (y:Value),x.cells=[x]→y.cells = #[y]→x.cell=true→PV m w x y→y.cells.size=x.cells.length∧∀ j (h:j<x.cells.length) (h':j<y.cells.size),(x.cells[j]).cell=true∧PV m w x.cells[j] y.cells[j]:=by
    intro x y h1 h2 h3 h4
    refine⟨by rw[h1,h2];rfl,fun j hj hj'=>?_⟩
    have:j=0:=by rw[h1] at hj;simpa using hj
    subst this
    simp only[h1,h2]
    exact⟨h3,h4⟩
  cases h with
  | agg hl hk hv=>exact⟨by simpa[Value.cells,D.cells] using hl,fun j hj hj'=>⟨hk j hj,hv j hj (by simpa[Value.cells] using hj')⟩⟩
  | tup hl hv=>simp[D.one,D.cell] at hx
  | v h =>
    refine single _ _ rfl ?_ hx (.v h)
    cases u<;>simp_all [Value.cells,plain]
  | nil=>exact single _ _ rfl rfl rfl .nil
  | pz h=>exact single _ _ rfl rfl rfl (.pz h)
  | ps us hn hc hk hv=>exact single _ _ rfl rfl rfl (.ps us hn hc hk hv)
  | pp us hc hk hv=>exact single _ _ rfl rfl rfl (.pp us hc hk hv)
  | ifc h=>exact single _ _ rfl rfl rfl (.ifc h)
  | fn hl hm hv hu=>exact single _ _ rfl rfl rfl (.fn hl hm hv hu)
  | mp es hm hb h1 h2 hborn hk hv=>exact single _ _ rfl rfl rfl (.mp es hm hb h1 h2 hborn hk hv)
theorem foldl_set (off:Nat):∀ (l:List Value) (k:Nat) (cur:Array Value),off+k+l.length≤cur.size →
    ((l.zipIdx k).foldl (fun cs (c,j)=>cs.setIfInBounds (off+j) c) cur).toList=cur.toList.take (off+k)++l++cur.toList.drop (off+k+l.length)
  | [],k,cur,h=>by simp
  | v::l,k,cur,h=>by
    simp only[List.zipIdx_cons,List.foldl_cons]
    simp only[List.length_cons] at h
    rw[foldl_set off l (k+1) (cur.setIfInBounds (off+k) v) (by simp;omega)]
    apply List.ext_getElem?
    intro j
    have e1:=three_get (l:=cur.toList) (m:=v::l) (off:=off+k) (n:=(v::l).length) rfl (by simp;omega) j
    have e2:=three_get (l:=(cur.setIfInBounds (off+k) v).toList) (m:=l) (off:=off+(k+1)) (n:=l.length) rfl (by simp;omega) j
    rw[e2,e1]
    simp only[List.length_cons,Array.toList_setIfInBounds,List.getElem?_set]
    by_cases h1:j<off+k
    · rw[if_pos (by omega),if_pos h1,if_neg (by omega)]
    · by_cases h2:j=off+k
      · subst h2
        rw[if_pos (show off+k<off+(k+1) by omega),if_neg h1,if_pos (show off+k<off+k+(l.length+1) by omega),if_pos rfl,if_pos (show off+k<cur.toList.length by simp;omega)]
        simp
      · rw[if_neg (by omega),if_neg h1]
        by_cases h3:j<off+(k+1)+l.length
        · rw[if_pos h3,if_pos (by omega)]
          have:j - (off+k)=(j - (off+(k+1)))+1:=by omega
          rw[this];simp
        · rw[if_neg h3,if_neg (by omega),if_neg (by omega)]
def fillL {α:Type} (place:Nat→Option (Nat×Nat)):List α→List (Nat×List α)→Option (List α)
  | cells,[]=>some cells
  | cells,(i,cs)::r=>match place i with
    | some (off,size)=>if cs.length=size∧off+size≤cells.length then fillL place (cells.take off++cs++cells.drop (off+size)) r else none
    | none=>none
theorem fillL_ok {α:Type}{R:α→Value→Prop}{place:Nat→Option (Nat×Nat)}:∀ {ps:List (Nat×List α)}{vs:List (Nat×Value)}{cells:List α}{cur:Array Value}{r:List α},fillL place cells ps=some r →
    ps.length=vs.length→(∀ j (h:j<ps.length) (h':j<vs.length),ps[j].1=vs[j].1∧vs[j].2.cells.size=ps[j].2.length∧∀ k (g:k<ps[j].2.length) (g':k<vs[j].2.cells.size),R ps[j].2[k] vs[j].2.cells[k]) →
    cur.size=cells.length→(∀ j (h:j<cells.length) (h':j<cur.size),R cells[j] cur[j]) →
    ∃ us,Instr.fill place cur vs=some us∧us.size=r.length∧∀ j (h:j<r.length) (h':j<us.size),R r[j] us[j]
  | [],vs,cells,cur,r,h,hl,hv,hs,hr=>by
    simp only[fillL,Option.some.injEq] at h;subst h
    match vs,hl with
    | [],_=>exact⟨cur,rfl,hs,hr⟩
  | (i,cs)::ps,vs,cells,cur,r,h,hl,hv,hs,hr=>by
    match vs,hl with
    | (i',v)::vs,hl =>
      simp only[fillL] at h
      split at h
      · rename_i off size hp
        split at h
        · rename_i hc
          obtain⟨e1,e2,e3⟩:=hv 0 (by simp) (by simp)
          simp only[List.getElem_cons_zero] at e1 e2 e3
          subst e1
          have hf:=foldl_set off v.cells.toList 0 cur (by simp;omega)
          rw[Nat.add_zero] at hf
          obtain⟨us,h1,h2,h3⟩:=fillL_ok (cur:=(v.cells.zipIdx.foldl (fun cs (c,j)=>cs.setIfInBounds (off+j) c) cur)) h (by simpa using hl) (fun j hj hj'=>by
            have:=hv (j+1) (by simp;omega) (by simp;omega)
            simpa using this) (by
              have hz:(v.cells.zipIdx.foldl (fun cs (c,j)=>cs.setIfInBounds (off+j) c) cur).toList=cur.toList.take off++v.cells.toList++cur.toList.drop (off+v.cells.toList.length):=by
                rw[← hf, ← Array.foldl_toList];simp
              rw[← Array.length_toList,hz];simp[e2,hs,hc.1]) (fun j hj hj'=>by
              have hz:(v.cells.zipIdx.foldl (fun cs (c,j)=>cs.setIfInBounds (off+j) c) cur).toList=cur.toList.take off++v.cells.toList++cur.toList.drop (off+size):=by
                have:v.cells.toList.length=size:=by simp[e2,hc.1]
                rw[← this, ← hf, ← Array.foldl_toList];simp
              have hj2:j<(cur.toList.take off++v.cells.toList++cur.toList.drop (off+size)).length:=by rw[← hz];simpa using hj'
              have hg:(v.cells.zipIdx.foldl (fun cs (c,j)=>cs.setIfInBounds (off+j) c) cur)[j]=(cur.toList.take off++v.cells.toList++cur.toList.drop (off+size))[j]:=by
                rw[← Array.getElem_toList];congr 1
              rw[hg]
              exact three_rel (R:=R) (cs:=cells) (us:=cur.toList) (ms:=cs) (ns:=v.cells.toList) (off:=off) (n:=size) (by simpa using Nat.le_of_eq hs.symm) hc.1 (by simp[e2,hc.1]) hc.2
                (fun j hj hj'=>by simpa using hr j hj (by simpa using hj')) (fun j hj hj'=>by simpa using e3 j hj (by simpa using hj')) j hj hj2)
          refine⟨us,?_,h2,h3⟩
          rw[Instr.fill,hp]
          simp only
          rw[if_neg (by simp;omega)]
          exact h1
        · cases h
      · cases h
def evalPart (a:Act) (p:Nat×Operand):Nat×Value:=(p.1,a.eval p.2)
def partsS (E:Env):List (Nat×Operand)→Option (List (Nat×List SV))
  | []=>some []
  | (i,x)::r=>match evalO E x,partsS E r with
    | some s,some l=>if s.one=true then some ((i,s.cells)::l) else none
    | _,_=>none
def partsD (E:Env):List (Nat×Operand)→Option (List (Nat×List D))
  | []=>some []
  | (i,x)::r=>match evalO E x,partsD E r with
    | some s,some l=>match s.toD with
      | some d=>if d.one=true then some ((i,d.cells)::l) else none
      | none=>none
    | _,_=>none
theorem partsS_ok (h:Rel m0 w0 G E S F a w):∀ {xs:List (Nat×Operand)}{ps:List (Nat×List SV)},partsS E xs=some ps→ps.length=(xs.map (evalPart a)).length ∧
    ∀ j (h:j<ps.length) (h':j<(xs.map (evalPart a)).length),ps[j].1=(xs.map (evalPart a))[j].1∧(xs.map (evalPart a))[j].2.cells.size=ps[j].2.length ∧
      ∀ k (g:k<ps[j].2.length) (g':k<(xs.map (evalPart a))[j].2.cells.size),(ps[j].2[k]).cell=true∧VR G w ps[j].2[k] (xs.map (evalPart a))[j].2.cells[k]
  | [],ps,he=>by simp only[partsS,Option.some.injEq] at he;subst he;exact⟨rfl,fun j hj=>by simp at hj⟩
  | (i,x)::r,ps,he=>by
    simp only[partsS] at he
    split at he
    · rename_i s l h1 h2
      split at he
      · rename_i h3
        simp only[Option.some.injEq] at he;subst he
        obtain⟨hl,hg⟩:=partsS_ok h h2
        obtain⟨g1,g2⟩:=(evalO_ok h h1).cells h3
        refine⟨by simpa using hl,fun j hj hj'=>?_⟩
        cases j with
        | zero=>exact⟨rfl,g1,g2⟩
        | succ j=>exact hg j (by simpa using hj) (by simpa using hj')
      · cases he
    · cases he
theorem partsD_ok (h:Rel m0 w0 G E S F a w):∀ {xs:List (Nat×Operand)}{ps:List (Nat×List D)},partsD E xs=some ps→ps.length=(xs.map (evalPart a)).length ∧
    ∀ j (h:j<ps.length) (h':j<(xs.map (evalPart a)).length),ps[j].1=(xs.map (evalPart a))[j].1∧(xs.map (evalPart a))[j].2.cells.size=ps[j].2.length ∧
      ∀ k (g:k<ps[j].2.length) (g':k<(xs.map (evalPart a))[j].2.cells.size),(ps[j].2[k]).cell=true∧PV G.mark w ps[j].2[k] (xs.map (evalPart a))[j].2.cells[k]
  | [],ps,he=>by simp only[partsD,Option.some.injEq] at he;subst he;exact⟨rfl,fun j hj=>by simp at hj⟩
  | (i,x)::r,ps,he=>by
    simp only[partsD] at he
    split at he
    · rename_i s l h1 h2
      split at he
      · rename_i d h3
        split at he
        · rename_i h4
          simp only[Option.some.injEq] at he;subst he
          obtain⟨hl,hg⟩:=partsD_ok h h2
          obtain⟨g1,g2⟩:=((evalO_ok h h1).toD h3).cellsOf h4
          refine⟨by simpa using hl,fun j hj hj'=>?_⟩
          cases j with
          | zero=>exact⟨rfl,g1,g2⟩
          | succ j=>exact hg j (by simpa using hj) (by simpa using hj')
        · cases he
      · cases he
    · cases he
def placeOf (P:Program) (T:TypeId) (i:Nat):Option (Nat×Nat) :=
  match P.underlying T with
  | some (.struct fs)=>match fs[i]? with
    | some f=>(szOf P f.type).map fun n=>(f.offset,n)
    | none=>none
  | some (.array _ e)=>(szOf P e).map fun n=>(i*n,n)
  | _=>none
def sized (P:Program) (T:TypeId):Bool :=
  match P.underlying T with
  | some (.struct fs)=>fs.toList.all fun f=>(szOf P f.type).isSome
  | some (.array _ e)=>(szOf P e).isSome
  | _=>false
theorem mapM_places:∀ {fs:List Field},fs.all (fun f:Field=>(szOf P f.type).isSome)=true→(fs.mapM fun f:Field=>(do Pure.pure (f.offset, ← sizeOf f.type):Sem (Nat×Nat))).run P w=.ok (fs.map fun f:Field=>(f.offset,(szOf P f.type).getD 0)) w
  | [],h=>rfl
  | f::fs,h=>by
    simp only[List.all_cons,Bool.and_eq_true] at h
    obtain⟨n,hn⟩:=Option.isSome_iff_exists.1 h.1
    rw[List.mapM_cons]
    simp only[Sem.run_bind,run_size hn,Result.andThen_ok,Sem.run_pure,mapM_places h.2,hn,List.map_cons,Option.getD_some]
theorem does_build {T:TypeId}{ps:Array (Nat×Operand)}{zs cells:List SV}{l:List (Nat×List SV)} (ho:o.op=.build T ps) (h:Rel m0 w0 G E S F a w) (hz:zeroCellsOf P T=some zs) (hp:partsS E ps.toList=some l)
    (hsz:sized P T=true) (hf:fillL (placeOf P T) zs l=some cells):Does P m0 w0 G E S F a w o (.ag cells) S F:=by
  obtain⟨z,h1,h2,h3⟩:=zeroCells_ok hz
  obtain⟨p1,p2⟩:=partsS_ok h hp
  obtain⟨us,g1,g2,g3⟩:=fillL_ok (R:=fun s u=>s.cell=true∧VR G w s u) hf p1 (fun j hj hj'=>p2 j hj hj') h2 (fun j hj hj'=>h3 G w j hj hj')
  refine .quiet h (u:=.agg us) ?_ ?_
  · have hmap:(ps.map fun (i,x)=>(i,a.eval x)).toList=ps.toList.map (evalPart a):=by rw[Array.toList_map];rfl
    simp only[execOp,ho,Instr.build]
    unfold sized at hsz
    unfold placeOf at g1
    split at hsz
    · rename_i fs hu
      simp only[hu] at g1
      have hm:=mapM_places (w:=w) hsz
      have hplaces:(fs.mapM fun f:Field=>(do Pure.pure (f.offset, ← sizeOf f.type):Sem (Nat×Nat))).run P w=.ok (fs.toList.map fun f:Field=>(f.offset,(szOf P f.type).getD 0)).toArray w:=by
        rw[Array.mapM_eq_mapM_toList]
        simp only[Sem.run_map]
        rw[hm];rfl
      have hpl:(fun i:Nat=>((fs.toList.map fun f:Field=>(f.offset,(szOf P f.type).getD 0)).toArray)[i]?)=fun i:Nat=>match fs[i]? with | some f=>(szOf P f.type).map fun n=>(f.offset,n) | none=>none:=by
        funext i
        simp only[List.getElem?_toArray,List.getElem?_map,Array.getElem?_toList]
        cases hfi:fs[i]? with
        | none=>rfl
        | some f =>
          have hmem:f∈fs.toList:=by
            rw[← Array.getElem?_toList] at hfi
            exact List.mem_of_getElem? hfi
          obtain⟨n,hn⟩:=Option.isSome_iff_exists.1 (List.all_eq_true.1 hsz f hmem)
          simp[hn]
      simp only[Sem.run_bind,run_zero h1,Result.andThen_ok,run_under hu]
      rw[hplaces]
      simp only[Result.andThen_ok]
      rw[hpl,hmap,g1]
      rfl
    · rename_i n e hu
      simp only[hu] at g1
      obtain⟨k,hk⟩:=Option.isSome_iff_exists.1 hsz
      simp only[hk,Option.map_some] at g1
      simp only[Sem.run_bind,run_zero h1,Result.andThen_ok,run_under hu,run_size hk]
      rw[hmap,g1]
      rfl
    · cases hsz
  · have:=VR.ag (G:=G) (w:=w) (cs:=cells) (us:=us.toList) (by simpa using g2) (fun j hj=>(g3 j hj (by omega)).1) (fun j hj hj'=>by simpa using (g3 j hj (by simpa using hj')).2)
    simpa using this
def zeroD (P:Program) (e:TypeId):Option (List D):=(zeroCellsOf P e).bind toDs
theorem does_row {us:Array Value}{cs:List D}{n c:Nat}{T:TypeId} (h:Rel m0 w0 G E S F a w) (hr:(execOp a.eval o).run P w=.ok (.value (.slice (some ⟨w.heap.size,0,none⟩) n c)) (w.alloc (.cells us T))) (hn:n≤c) (hcn:c=n)
    (hl:us.size=cs.length) (hv:∀ j (h:j<cs.length) (h':j<us.size),(cs[j]).cell=true∧PV G.mark w cs[j] us[j]):Does P m0 w0 G E S F a w o (.fl cs n) S F:=by
  let m':Nat→Nat:=fun B=>if B=w.heap.size then us.size else G.mark B
  have hb:Below w.heap.size w (w.alloc (.cells us T)):=(Below.refl _ _).alloc (Nat.le_refl _) _
  obtain⟨hr',f⟩:=h.called (m':=m') (fun B hB=>if_neg (by omega)) (fun B hB=>by simp at hB;show (if B=w.heap.size then us.size else G.mark B)=0;rw[if_neg (by omega)];exact h.new B (by omega)) (fun _ B hB hpos=>by
    by_cases e:B=w.heap.size
    · subst e;exact .inl ⟨us,T,heap_alloc_self⟩
    · have hpos:0<if B=w.heap.size then us.size else G.mark B:=hpos
      rw[if_neg e,h.new B hB] at hpos;exact absurd hpos (Nat.lt_irrefl _)) hb
  refine⟨_,_,_,_,hr, .inl rfl, .fl (PV.mk (us:=us.toList) (by simpa using hl) hn (fun j v hj=>?_) (fun j hj hj'=>?_)) (fun A k c' e=>by cases e;exact hcn),hr',f⟩
  · obtain⟨hlt,_⟩:=List.getElem?_eq_some_iff.1 hj
    refine⟨?_,?_⟩
    · show 0+j<if w.heap.size=w.heap.size then us.size else _
      rw[if_pos rfl];simpa using hlt
    · rw[Nat.zero_add,World.cell?_alloc_new];simpa using hj
  · have:=hv j hj (by simpa using hj')
    exact⟨this.1,by simpa using this.2.fut f⟩
theorem toDs_rel {zs:List SV}{ds:List D}{us:Array Value} (h:toDs zs=some ds) (hl:us.size=zs.length) (hv:∀ j (h:j<zs.length) (h':j<us.size),(zs[j]).cell=true∧VR G w zs[j] us[j]) :
    us.size=ds.length∧∀ j (h:j<ds.length) (h':j<us.size),(ds[j]).cell=true∧PV G.mark w ds[j] us[j]:=by
  obtain⟨h1,h2⟩:=toDs_get h
  exact⟨by omega,fun j hj hj'=>⟨toD_cell (h2 j (by omega) hj) (hv j (by omega) hj').1,(hv j (by omega) hj').2.toD (h2 j (by omega) hj)⟩⟩
theorem run_buildSlice {T e:TypeId}{n sz:Nat}{ps:Array (Nat×Operand)}{zs cells:List D}{l:List (Nat×List D)} (ho:o.op=.buildSlice T n ps) (h:Rel m0 w0 G E S F a w) (hu:P.underlying T=some (.slice e)) (hs:szOf P e=some sz)
    (hz:zeroD P e=some zs) (hzl:zs.length=sz) (hle:n*sz≤16777216) (hp:partsD E ps.toList=some l)
    (hf:fillL (fun i=>some (i*sz,sz)) ((List.range (n*sz)).map fun j=>zs.getD (j % sz) default) l=some cells) :
    ∃ us:Array Value,(execOp a.eval o).run P w=.ok (.value (.slice (some ⟨w.heap.size,0,none⟩) n n)) (w.alloc (.cells us e))∧us.size=cells.length∧∀ j (h:j<cells.length) (h':j<us.size),(cells[j]).cell=true∧PV G.mark w cells[j] us[j]:=by
  unfold zeroD at hz
  simp only[Option.bind_eq_some_iff] at hz
  obtain⟨zs',hz1,hz2⟩:=hz
  obtain⟨z,h1,h2,h3⟩:=zeroCells_ok hz1
  obtain⟨q1,q2⟩:=toDs_rel (G:=G) (w:=w) hz2 h2 (h3 G w)
  obtain⟨p1,p2⟩:=partsD_ok h hp
  have hstart:∀ j (hj:j<((List.range (n*sz)).map fun j=>zs.getD (j % sz) default).length) (hj':j<((Array.range (n*sz)).map fun j=>(if n*sz=0 then #[] else z.cells)[j % (if n*sz=0 then #[] else z.cells).size]!).size),
      (((List.range (n*sz)).map fun j=>zs.getD (j % sz) default)[j]).cell=true∧PV G.mark w (((List.range (n*sz)).map fun j=>zs.getD (j % sz) default)[j]) (((Array.range (n*sz)).map fun j=>(if n*sz=0 then #[] else z.cells)[j % (if n*sz=0 then #[] else z.cells).size]!)[j]):=by
    intro j hj hj'
    have hj2:j<n*sz:=by simpa using hj
    have hne:n*sz≠0:=by omega
    have hsz:0<sz:=by
      rcases Nat.eq_zero_or_pos sz with e0 | e0
      · subst e0;simp at hne
      · exact e0
    have hmod:j % sz<zs.length:=by rw[hzl];exact Nat.mod_lt _ hsz
    have hzsz:z.cells.size=sz:=by omega
    have:=q2 (j % sz) hmod (by omega)
    simp only[List.getElem_map,List.getElem_range,Array.getElem_map,Array.getElem_range,if_neg hne,hzsz]
    rw[List.getD_eq_getElem?_getD,List.getElem?_eq_getElem hmod,Option.getD_some,getElem!_pos z.cells (j % sz) (by omega)]
    exact this
  obtain⟨us,g1,g2,g3⟩:=fillL_ok (R:=fun s u=>s.cell=true∧PV G.mark w s u) (cur:=(Array.range (n*sz)).map fun j=>(if n*sz=0 then #[] else z.cells)[j % (if n*sz=0 then #[] else z.cells).size]!) hf p1 (fun j hj hj'=>p2 j hj hj') (by simp) hstart
  refine⟨us,?_,g2,g3⟩
  have hmap:(ps.map fun (i,x)=>(i,a.eval x)).toList=ps.toList.map (evalPart a):=by rw[Array.toList_map];rfl
  simp only[execOp,ho,Instr.buildSlice]
  simp only[Sem.run_bind,run_under hu,Result.andThen_ok,run_size hs]
  rw[if_neg (by omega)]
  by_cases h0:n*sz=0
  · simp only[h0,if_true] at g1 ⊢
    simp only[Sem.run_bind,Sem.run_pure,Result.andThen_ok]
    rw[hmap,g1]
    simp[run_newRow]
  · simp only[h0,if_false] at g1 ⊢
    simp only[Sem.run_bind,Sem.run_pure,Result.andThen_ok,run_zero h1]
    rw[hmap,g1]
    simp[run_newRow]
theorem run_buildSliceV {T e:TypeId}{n sz:Nat}{ps:Array (Nat×Operand)}{zs cells:List SV}{l:List (Nat×List SV)} (ho:o.op=.buildSlice T n ps) (h:Rel m0 w0 G E S F a w) (hu:P.underlying T=some (.slice e)) (hs:szOf P e=some sz)
    (hz:zeroCellsOf P e=some zs) (hzl:zs.length=sz) (hle:n*sz≤16777216) (hp:partsS E ps.toList=some l)
    (hf:fillL (fun i=>some (i*sz,sz)) ((List.range (n*sz)).map fun j=>zs.getD (j % sz) (.d (.v undef))) l=some cells) :
    ∃ us:Array Value,(execOp a.eval o).run P w=.ok (.value (.slice (some ⟨w.heap.size,0,none⟩) n n)) (w.alloc (.cells us e))∧us.size=cells.length∧∀ j (h:j<cells.length) (h':j<us.size),(cells[j]).cell=true∧VR G w cells[j] us[j]:=by
  obtain⟨z,h1,h2,h3⟩:=zeroCells_ok hz
  have q2:=fun j hj hj'=>h3 G w j hj hj'
  obtain⟨p1,p2⟩:=partsS_ok h hp
  have hstart:∀ j (hj:j<((List.range (n*sz)).map fun j=>zs.getD (j % sz) (.d (.v undef))).length) (hj':j<((Array.range (n*sz)).map fun j=>(if n*sz=0 then #[] else z.cells)[j % (if n*sz=0 then #[] else z.cells).size]!).size),
      (((List.range (n*sz)).map fun j=>zs.getD (j % sz) (.d (.v undef)))[j]).cell=true∧VR G w (((List.range (n*sz)).map fun j=>zs.getD (j % sz) (.d (.v undef)))[j]) (((Array.range (n*sz)).map fun j=>(if n*sz=0 then #[] else z.cells)[j % (if n*sz=0 then #[] else z.cells).size]!)[j]):=by
    intro j hj hj'
    have hj2:j<n*sz:=by simpa using hj
    have hne:n*sz≠0:=by omega
    have hsz:0<sz:=by
      rcases Nat.eq_zero_or_pos sz with e0 | e0
      · subst e0;simp at hne
      · exact e0
    have hmod:j % sz<zs.length:=by rw[hzl];exact Nat.mod_lt _ hsz
    have hzsz:z.cells.size=sz:=by omega
    have:=q2 (j % sz) hmod (by omega)
    simp only[List.getElem_map,List.getElem_range,Array.getElem_map,Array.getElem_range,if_neg hne,hzsz]
    rw[List.getD_eq_getElem?_getD,List.getElem?_eq_getElem hmod,Option.getD_some,getElem!_pos z.cells (j % sz) (by omega)]
    exact this
  obtain⟨us,g1,g2,g3⟩:=fillL_ok (R:=fun s u=>s.cell=true∧VR G w s u) (cur:=(Array.range (n*sz)).map fun j=>(if n*sz=0 then #[] else z.cells)[j % (if n*sz=0 then #[] else z.cells).size]!) hf p1 (fun j hj hj'=>p2 j hj hj') (by simp) hstart
  refine⟨us,?_,g2,g3⟩
  have hmap:(ps.map fun (i,x)=>(i,a.eval x)).toList=ps.toList.map (evalPart a):=by rw[Array.toList_map];rfl
  simp only[execOp,ho,Instr.buildSlice]
  simp only[Sem.run_bind,run_under hu,Result.andThen_ok,run_size hs]
  rw[if_neg (by omega)]
  by_cases h0:n*sz=0
  · simp only[h0,if_true] at g1 ⊢
    simp only[Sem.run_bind,Sem.run_pure,Result.andThen_ok]
    rw[hmap,g1]
    simp[run_newRow]
  · simp only[h0,if_false] at g1 ⊢
    simp only[Sem.run_bind,Sem.run_pure,Result.andThen_ok,run_zero h1]
    rw[hmap,g1]
    simp[run_newRow]
theorem does_buildSlice {T e:TypeId}{n sz:Nat}{ps:Array (Nat×Operand)}{zs cells:List D}{l:List (Nat×List D)} (ho:o.op=.buildSlice T n ps) (h:Rel m0 w0 G E S F a w) (hu:P.underlying T=some (.slice e)) (hs:szOf P e=some sz)
    (hz:zeroD P e=some zs) (hzl:zs.length=sz) (hle:n*sz≤16777216) (hp:partsD E ps.toList=some l)
    (hf:fillL (fun i=>some (i*sz,sz)) ((List.range (n*sz)).map fun j=>zs.getD (j % sz) default) l=some cells):Does P m0 w0 G E S F a w o (.fl cells n) S F:=by
  obtain⟨us,h1,h2,h3⟩:=run_buildSlice ho h hu hs hz hzl hle hp hf
  exact does_row (us:=us) (T:=e) h h1 (Nat.le_refl n) rfl h2 h3
end
end Go.Sh
namespace Go.Sh
open Go.RowKit (Below)
section
variable {P:Program}{m0:Nat→Nat}{w0:World}{G:Gh}{E:Env}{S:St}{F:Nat→Prop}{a:Act}{w:World}{o:Oper}
def bndS (E:Env) (dflt:Nat):Option Operand→Option Int
  | none=>some dflt
  | some x=>match evalO E x with
    | some (.d (.v (.int _ n)))=>some n
    | _=>none
theorem bndS_ok (h:Rel m0 w0 G E S F a w) {dflt:Nat}{x:Option Operand}{l:Int} (he:bndS E dflt x=some l):(x=none∧l=dflt)∨∃ y k,x=some y∧a.eval y=.int k l:=by
  unfold bndS at he
  split at he
  · simp only[Option.some.injEq] at he;exact .inl ⟨rfl,he.symm⟩
  · rename_i y
    split at he
    · rename_i k n hy
      simp only[Option.some.injEq] at he;subst he
      exact .inr ⟨y,k,rfl,evalO_v h hy⟩
    · cases he
theorem run_bounds (h:Rel m0 w0 G E S F a w) {isS:Bool}{len cap:Nat}{lo hi:Option Operand}{l u:Int} (hlo:bndS E 0 lo=some l) (hhi:bndS E len hi=some u) (h0:0≤l) (h1:l≤u) (h2:u≤cap) :
    (Instr.sliceBounds isS len cap (lo.map a.eval) (hi.map a.eval) none).run P w=.ok (l.toNat,u.toNat,cap) w:=by
  have h3:0≤u:=by omega
  have h4:l≤max u 0:=by omega
  rcases bndS_ok h hhi with ⟨rfl,rfl⟩ | ⟨y,k,rfl,hy⟩<;>rcases bndS_ok h hlo with ⟨rfl,rfl⟩ | ⟨y',k',rfl,hy'⟩
  · simp[Instr.sliceBounds]
  · simp[Instr.sliceBounds,Instr.sliceBound,hy',asIntOf,h0,h1]
  · simp[Instr.sliceBounds,Instr.sliceBound,hy,asIntOf,h3,h2]
  · simp[Instr.sliceBounds,Instr.sliceBound,hy,hy',asIntOf,h3,h2,h0,h4]
theorem does_slice_string {T:TypeId}{x:Operand}{lo hi:Option Operand}{s:ByteArray}{l u:Int} (ho:o.op=.slice T x lo hi none) (h:Rel m0 w0 G E S F a w) (hx:evalO E x=some (.d (.v (.string s)))) (hT:P.underlying T=some .string)
    (hlo:bndS E 0 lo=some l) (hhi:bndS E s.size hi=some u) (h0:0≤l) (h1:l≤u) (h2:u≤s.size):Does P m0 w0 G E S F a w o (.d (.v (.string (s.extract l.toNat u.toNat)))) S F:=by
  have hb:=run_bounds (P:=P) (isS:=false) h hlo hhi h0 h1 h2
  refine .quiet h ?_ (.d (.v rfl))
  simp only[execOp,ho,evalO_v h hx,Option.map_none]
  simp[Instr.sliceAt,Instr.slice,run_under hT,hb]
theorem run_slice {T e:TypeId}{x:Operand}{lo hi:Option Operand}{A:Option Addr}{n c sz:Nat}{l u:Int} (ho:o.op=.slice T x lo hi none) (h:Rel m0 w0 G E S F a w) (hx:a.eval x=.slice A n c) (hT:P.underlying T=some (.slice e)) (hs:szOf P e=some sz)
    (hlo:bndS E 0 lo=some l) (hhi:bndS E n hi=some u) (h0:0≤l) (h1:l≤u) (h2:u≤c) :
    (execOp a.eval o).run P w=.ok (.value (.slice (if c=l.toNat then A else A.map (·.add (l.toNat*sz))) (u.toNat - l.toNat) (c - l.toNat))) w:=by
  have hb:=run_bounds (P:=P) (isS:=true) h hlo hhi h0 h1 h2
  simp only[execOp,ho,hx,Option.map_none]
  simp[Instr.sliceAt,Instr.slice,run_under hT,hb,run_size hs]
theorem PV.part {m:Nat→Nat}{cs:List D}{n c B o' l k n' c':Nat} (h:PV m w (.ps cs n) (.slice (some ⟨B,o',none⟩) n c)) (hn:n'≤c'):PV m w (.ps ((cs.drop l).take k) n') (.slice (some ⟨B,o'+l,none⟩) n' c'):=by
  cases h with
  | pz h=>exact absurd rfl h
  | ps us hn0 hc hk hv =>
    have hlen:∀ j,j<((cs.drop l).take k).length→l+j<cs.length:=fun j hj=>by simp at hj;omega
    refine .ps (fun j=>us (l+j)) hn (fun j hj=>?_) (fun j hj=>?_) (fun j hj=>?_)
    · rw[Nat.add_assoc];exact hc (l+j) (hlen j hj)
    · have:((cs.drop l).take k)[j]=cs[l+j]'(hlen j hj):=by simp
      rw[this];exact hk _ _
    · have:((cs.drop l).take k)[j]=cs[l+j]'(hlen j hj):=by simp
      rw[this];exact hv _ _
theorem PV.part0 {m:Nat→Nat}{A:Option Addr}{B o' c:Nat} (hA:A=some ⟨B,o',none⟩):PV m w (.ps [] 0) (.slice A 0 c):=by
  subst hA
  exact .ps (fun _=>undef) (Nat.zero_le _) (fun j hj=>by simp at hj) (fun j hj=>by simp at hj) (fun j hj=>by simp at hj)
theorem does_slice_row {T e:TypeId}{x:Operand}{lo hi:Option Operand}{s:SV}{cs:List D}{n sz:Nat}{l u:Int} (ho:o.op=.slice T x lo hi none) (h:Rel m0 w0 G E S F a w) (hx:evalO E x=some s) (hr:rowS s=some (cs,n)) (hT:P.underlying T=some (.slice e)) (hs:szOf P e=some sz)
    (hlo:bndS E 0 lo=some l) (hhi:bndS E n hi=some u) (h0:0≤l) (h1:l≤u) (h2:u≤n):Does P m0 w0 G E S F a w o (.d (.ps ((cs.drop (l.toNat*sz)).take ((u.toNat - l.toNat)*sz)) (u.toNat - l.toNat))) S F:=by
  have hv:=rowS_ok hr (evalO_ok h hx)
  obtain⟨A,c,hA,hnc⟩:=hv.slice_inv
  have hrun:=run_slice ho h hA hT hs hlo hhi h0 h1 (by omega)
  rw[hA] at hv
  refine .quiet h hrun (.d ?_)
  cases hv with
  | nil =>
    have e1:l=0:=by omega
    have e2:u=0:=by omega
    subst e1;subst e2
    simp only[Int.toNat_zero,if_true,Nat.sub_self,Nat.zero_mul,List.drop_nil,List.take_nil]
    exact .nil
  | pz hsp =>
    have e1:l=0:=by omega
    have e2:u=0:=by omega
    subst e1;subst e2
    simp only[Int.toNat_zero,if_true,Nat.sub_self,Nat.zero_mul,List.drop_nil,List.take_nil]
    exact .pz hsp
  | ps us hn hc hk hv =>
    rename_i B o'
    split
    · rename_i ec
      have e1:u.toNat - l.toNat=0:=by omega
      rw[e1,Nat.zero_mul,List.take_zero]
      exact .part0 rfl
    · show PV _ _ _ (.slice (some ((⟨B,o',none⟩:Addr).add _)) _ _)
      rw[add_off]
      exact PV.part (.ps us hn hc hk hv) (by omega)
theorem does_slice_os {T e:TypeId}{x:Operand}{lo hi:Option Operand}{b off n sz:Nat}{l u:Int} (ho:o.op=.slice T x lo hi none) (h:Rel m0 w0 G E S F a w) (hx:evalO E x=some (.os b off n)) (hT:P.underlying T=some (.slice e)) (hs:szOf P e=some sz)
    (hlo:bndS E 0 lo=some l) (hhi:bndS E n hi=some u) (h0:0≤l) (h1:l<u) (h2:u≤n):Does P m0 w0 G E S F a w o (.os b (off+l.toNat*sz) (u.toNat - l.toNat)) S F:=by
  obtain⟨B,c,hg,hc,hA⟩:=(evalO_ok h hx).os_inv
  have hrun:=run_slice ho h hA hT hs hlo hhi h0 (by omega) (by omega)
  rw[if_neg (by omega)] at hrun
  have e1:(some ⟨B,off,none⟩:Option Addr).map (·.add (l.toNat*sz))=some ⟨B,off+l.toNat*sz,none⟩:=by
    show some ((⟨B,off,none⟩:Addr).add _)=_
    rw[add_off]
  rw[e1] at hrun
  exact .quiet h hrun (.os hg (by omega))
theorem run_slice_array {T e:TypeId}{x:Operand}{lo hi:Option Operand}{B off n sz:Nat}{l u:Int} (ho:o.op=.slice T x lo hi none) (h:Rel m0 w0 G E S F a w) (hx:a.eval x=.pointer (some ⟨B,off,none⟩)) (hT:P.underlying T=some (.array n e)) (hs:szOf P e=some sz)
    (hlo:bndS E 0 lo=some l) (hhi:bndS E n hi=some u) (h0:0≤l) (h1:l<u) (h2:u≤n) :
    (execOp a.eval o).run P w=.ok (.value (.slice (some ⟨B,off+l.toNat*sz,none⟩) (u.toNat - l.toNat) (n - l.toNat))) w:=by
  have hb:=run_bounds (P:=P) (isS:=false) h hlo hhi h0 (by omega) h2
  have e1:¬ n=l.toNat:=by omega
  simp only[execOp,ho,hx,Option.map_none]
  simp[Instr.sliceAt,Instr.sureAddr,run_under hT,hb,run_size hs,e1,add_off]
theorem does_slice_op {T e:TypeId}{x:Operand}{lo hi:Option Operand}{b off n sz:Nat}{l u:Int} (ho:o.op=.slice T x lo hi none) (h:Rel m0 w0 G E S F a w) (hx:evalO E x=some (.op b off)) (hT:P.underlying T=some (.array n e)) (hs:szOf P e=some sz)
    (hlo:bndS E 0 lo=some l) (hhi:bndS E n hi=some u) (h0:0≤l) (h1:l<u) (h2:u≤n):Does P m0 w0 G E S F a w o (.os b (off+l.toNat*sz) (u.toNat - l.toNat)) S F:=by
  obtain⟨B,hg,hA⟩:=(evalO_ok h hx).op_inv
  exact .quiet h (run_slice_array ho h hA hT hs hlo hhi h0 h1 h2) (.os hg (by omega))
theorem does_slice_pa {T e:TypeId}{x:Operand}{lo hi:Option Operand}{cs:List D}{off n sz:Nat}{l u:Int} (ho:o.op=.slice T x lo hi none) (h:Rel m0 w0 G E S F a w) (hx:evalO E x=some (.d (.pp cs off))) (hT:P.underlying T=some (.array n e)) (hs:szOf P e=some sz)
    (hlo:bndS E 0 lo=some l) (hhi:bndS E n hi=some u) (h0:0≤l) (h1:l<u) (h2:u≤n):Does P m0 w0 G E S F a w o (.d (.ps ((cs.drop (off+l.toNat*sz)).take ((u.toNat - l.toNat)*sz)) (u.toNat - l.toNat))) S F:=by
  have hv:=evalO_ok h hx
  generalize hX:a.eval x=X at hv
  cases hv with
  | d hv =>
    cases hv with
    | pp us hc hk hv =>
      rename_i B o'
      refine .quiet h (run_slice_array ho h hX hT hs hlo hhi h0 h1 h2) (.d ?_)
      rw[Nat.add_assoc]
      exact PV.part (n:=0) (c:=0) (.ps us (Nat.le_refl _) hc hk hv) (by omega)
theorem does_make {T e:TypeId}{x y:Operand}{k k':IntKind}{l:Int}{i:TypeInfo}{zs:List SV}{id:Nat} (ho:o.op=.makeSlice T x y) (h:Rel m0 w0 G E S F a w) (hid:F id) (hx:evalO E x=some (.d (.v (.int k l)))) (hy:evalO E y=some (.d (.v (.int k' l))))
    (hT:P.underlying T=some (.slice e)) (hi:P.info? e=some i) (hz:zeroCellsOf P e=some zs) (hzl:zs.length=i.size) (h0:0≤l) (hb:(i.bytes:Int)*l≤281474976710656) (hl:l≤9223372036854775807) :
    Does P m0 w0 G E S F a w o (.os id 0 l.toNat) (S.new id ((List.range (l.toNat*i.size)).map fun j=>zs.getD (j % i.size) (.d (.v undef)))) (fun b=>F b∧b≠id):=by
  obtain⟨z,h1,h2,h3⟩:=zeroCells_ok hz
  have hz':i.zero=some z:=by unfold zeroOf at h1;rw[hi] at h1;exact h1
  have hr:=run_make (P:=P) w T e i z hT hi hz' k k' l l h0 (Int.le_refl _) hb hl
  have hrun:(execOp a.eval o).run P w=.ok (.value (.slice (some ⟨w.heap.size,0,none⟩) l.toNat l.toNat)) (w.alloc (.cells (madeCells z.cells (l.toNat*i.size)) e)):=by
    simp only[execOp,ho,evalO_v h hx,evalO_v h hy]
    rw[Sem.run_bind,hr];rfl
  obtain⟨G',g1,f,g2⟩:=h.new_box hid ((List.range (l.toNat*i.size)).map fun j=>zs.getD (j % i.size) (.d (.v undef))) (madeCells z.cells (l.toNat*i.size)) e (by simp[size_madeCells]) (fun j hj hj'=>by
    have hj2:j<l.toNat*i.size:=by simpa using hj
    have hsz:0<i.size:=by
      rcases Nat.eq_zero_or_pos i.size with e0 | e0
      · rw[e0] at hj2;simp at hj2
      · exact e0
    have hmod:j % i.size<zs.length:=by rw[hzl];exact Nat.mod_lt _ hsz
    have hzsz:z.cells.size=i.size:=by omega
    have:=h3 G w (j % i.size) hmod (by omega)
    simp only[List.getElem_map,List.getElem_range,madeCells,Array.getElem_map,Array.getElem_range,hzsz]
    rw[List.getD_eq_getElem?_getD,List.getElem?_eq_getElem hmod,Option.getD_some,getElem!_pos z.cells (j % i.size) (by omega)]
    exact this)
  exact⟨_,_,_,G',hrun, .inl rfl, .os g2 (Nat.le_refl _),g1,f⟩
theorem does_make_tip {T e:TypeId}{x y:Operand}{k k':IntKind}{l:Int}{i:TypeInfo}{zs:List SV}{id:Nat} (ho:o.op=.makeSlice T x y) (h:Rel m0 w0 G E S F a w) (hid:F id) (hx:evalO E x=some (.d (.v (.int k 0)))) (hy:evalO E y=some (.d (.v (.int k' l))))
    (hT:P.underlying T=some (.slice e)) (hi:P.info? e=some i) (hz:zeroCellsOf P e=some zs) (hzl:zs.length=i.size) (hsz:0<i.size) (h0:0≤l) (hb:(i.bytes:Int)*l≤281474976710656) (hl:l≤9223372036854775807) :
    Does P m0 w0 G E S F a w o (.tp id 0 [] 0) (S.tipTo id 0 i.size) (fun b=>F b∧b≠id):=by
  obtain⟨z,h1,h2,h3⟩:=zeroCells_ok hz
  have hz':i.zero=some z:=by unfold zeroOf at h1;rw[hi] at h1;exact h1
  have hr:=run_make (P:=P) w T e i z hT hi hz' k k' 0 l (Int.le_refl _) h0 hb hl
  have hrun:(execOp a.eval o).run P w=.ok (.value (.slice (some ⟨w.heap.size,0,none⟩) 0 l.toNat)) (w.alloc (.cells (madeCells z.cells (l.toNat*i.size)) e)):=by
    simp only[execOp,ho,evalO_v h hx,evalO_v h hy]
    rw[Sem.run_bind,hr];rfl
  have hfi:=h.fresh id hid
  obtain⟨G',g1,f,g2,g3,g4⟩:=h.new_tip (i:=id) (F':=fun b=>F b∧b≠id) (fun b hb=>hb.1) (.inl ⟨hid,fun b hb=>hb.2⟩) (us:=madeCells z.cells (l.toNat*i.size)) (T:=e) (v:=0) (n:=0) (c:=l.toNat) (sz:=i.size) (fr:=(0,0)) rfl rfl hsz (Nat.le_refl _) (Nat.zero_le _) (by rw[size_madeCells];exact Nat.le_refl _)
    (fun k sz' hk=>by obtain⟨B,_,_,_,cap,_,k1,_⟩:=h.tip id k sz' hk;rw[hfi.2] at k1;cases k1)
  exact⟨_,_,_,G',hrun, .inl rfl, .tp (.part0 rfl) g3 (Nat.le_refl _) (fun _=>⟨rfl,Nat.le_refl _,rfl,i.size,fun _=>by simp,g2,hsz⟩),g1,f⟩
def byteD (b:UInt8):D:=.v (.int .u8 b.toNat)
def bytesD (s:ByteArray):List D:=s.data.toList.map byteD
theorem does_bytes_of_string {T U e:TypeId}{x:Operand}{s:ByteArray} (ho:o.op=.convert T U x) (h:Rel m0 w0 G E S F a w) (hx:evalO E x=some (.d (.v (.string s)))) (hT:P.underlying T=some .string) (hU:P.underlying U=some (.slice e)) (he:P.underlying e=some (.int .u8)) :
    Does P m0 w0 G E S F a w o (.d (.ps (bytesD s) s.size)) S F:=by
  have hr:=run_bytes_of_string (P:=P) w T U e s hT hU he
  have hcap:s.size≤grownCap w s.size 0 e:=grownCap_ge w s.size 0 e
  have hrun:(execOp a.eval o).run P w=.ok (.value (.slice (some ⟨w.heap.size,0,none⟩) s.size (grownCap w s.size 0 e))) (w.drew.alloc (.cells (bytesRow s (grownCap w s.size 0 e)) e ((bytesRow s (grownCap w s.size 0 e)).size,(bytesRow s (grownCap w s.size 0 e)).size+1))):=by
    simp only[execOp,ho,evalO_v h hx]
    rw[Sem.run_bind,hr];rfl
  have hlen:(bytesD s).length=s.size:=by unfold bytesD;rw[List.length_map,Array.length_toList];rfl
  have hat:∀ j,j<s.size→(bytesRow s (grownCap w s.size 0 e))[j]?=some (.int .u8 ((s.data.toList.getD j 0).toNat:Int)):=fun j hj=>by
    have hj2:j<s.data.size:=hj
    have hg:s.data[j]?=some s.data[j]:=Array.getElem?_eq_getElem hj2
    rw[bytesRow_at s _ j hj2]
    simp[hg]
  generalize bytesRow s (grownCap w s.size 0 e)=row at hrun hat
  have hb:Below w.drew.heap.size w.drew (w.drew.alloc (.cells row e (row.size,row.size+1))):=(Below.refl _ _).alloc (Nat.le_refl _) _
  obtain⟨hr',f⟩:=h.draw.called (m':=fun B=>if B=w.heap.size then s.size else G.mark B) (fun B hB=>if_neg (Nat.ne_of_lt hB)) (fun B hB=>by
    have hB:w.drew.heap.size+1≤B:=by simpa using hB
    have hB:w.heap.size+1≤B:=hB
    show (if B=w.heap.size then s.size else G.mark B)=0
    rw[if_neg (by omega)];exact h.new B (by omega)) (fun _ B hB hpos=>by
    have hB:w.heap.size≤B:=hB
    by_cases e1:B=w.heap.size
    · subst e1
      refine .inr (.inl ⟨row,e,_,heap_alloc_self (w:=w.drew),fun j hj=>?_⟩)
      rw[if_pos rfl] at hj
      exact⟨_,hat j hj⟩
    · rw[if_neg e1,h.new B hB] at hpos;exact absurd hpos (Nat.lt_irrefl _)) hb
  refine⟨_,_,_,_,hrun, .inl rfl, .d (.ps (fun j=>.int .u8 ((s.data.toList.getD j 0).toNat:Int)) hcap (fun j hj=>?_) (fun j hj=>?_) (fun j hj=>?_)),hr',(fut_draw G w).trans f⟩
  · rw[hlen] at hj
    refine⟨by show 0+j<if w.heap.size=w.heap.size then s.size else _;rw[if_pos rfl];omega,?_⟩
    rw[Nat.zero_add]
    have hc:=cell_of_heap (heap_alloc_self (w:=w.drew) (o:=.cells row e (row.size,row.size+1))) j
    have hc':(w.drew.alloc (.cells row e (row.size,row.size+1))).cell? ⟨w.heap.size,j,none⟩=row[j]?:=hc
    rw[hc',hat j hj]
  · simp only[bytesD,List.getElem_map,byteD];rfl
  · have hj2:j<s.data.size:=by rw[hlen] at hj;exact hj
    have e1:(bytesD s)[j]=.v (.int .u8 ((s.data.toList.getD j 0).toNat:Int)):=by
      have hg:s.data[j]?=some s.data[j]:=Array.getElem?_eq_getElem hj2
      simp[bytesD,byteD,hg]
    rw[e1]
    exact .v rfl
def numsOf:List D→Option (List Int)
  | []=>some []
  | .v (.int .u8 n)::r=>(numsOf r).map (n :: ·)
  | _=>none
theorem numsOf_ok:∀ {cs:List D}{ns:List Int},numsOf cs=some ns→ns.length=cs.length∧∀ j (h:j<cs.length),cs[j]=.v (.int .u8 (ns.getD j 0))
  | [],ns,h=>by simp only[numsOf,Option.some.injEq] at h;subst h;exact⟨rfl,fun j hj=>by simp at hj⟩
  | c::r,ns,h=>by
    unfold numsOf at h
    split at h
    · rename_i e;cases e
    · rename_i n r' e
      cases e
      simp only[Option.map_eq_some_iff] at h
      obtain⟨ms,h1,rfl⟩:=h
      obtain⟨h2,h3⟩:=numsOf_ok h1
      refine⟨by simp[h2],fun j hj=>?_⟩
      cases j with
      | zero=>rfl
      | succ j=>simpa using h3 j (by simpa using hj)
    · cases h
theorem does_string_of_bytes {T U e:TypeId}{x:Operand}{s:SV}{cs:List D}{n:Nat}{ns:List Int} (ho:o.op=.convert T U x) (h:Rel m0 w0 G E S F a w) (hx:evalO E x=some s) (hr:rowS s=some (cs,n)) (hn:numsOf cs=some ns) (hl:ns.length=n) (hT:P.underlying T=some (.slice e)) (he:P.underlying e=some (.int .u8)) (hU:P.underlying U=some .string) :
    Does P m0 w0 G E S F a w o (.d (.v (.string (strOfNums ns)))) S F:=by
  have hv:=rowS_ok hr (evalO_ok h hx)
  obtain⟨hcl,hcv⟩:=numsOf_ok hn
  generalize hX:a.eval x=X at hv
  cases hv with
  | nil =>
    have e1:ns=[]:=by simpa using hl
    subst e1
    refine .quiet h (u:=.string ByteArray.empty) ?_ (.d ?_)
    · simp only[execOp,ho,hX]
      rw[Sem.run_bind,run_convert_bytes_nil w T e hT he 0 0 U hU];rfl
    · exact .v rfl
  | pz hsp =>
    rename_i a0
    have e1:ns=[]:=by simpa using hl
    subst e1
    refine .quiet h (u:=.string ByteArray.empty) ?_ (.d (.v rfl))
    have hld:(loadCells a0 0).run P w=.ok #[] w:=by
      have:=run_loadCells_list (P:=P) w a0 [] (fun j v hj=>by simp at hj)
      simpa using this
    simp only[execOp,ho,hX]
    rw[Sem.run_bind,run_convert_bytes_string w T U e _ 0 0 hT he hU]
    simp[Conv.bytesToString,hld]
  | ps us hn' hc hk hv =>
    rename_i B o' c
    have hr:=run_convert_bytes_arg (P:=P) w T e hT he B o' n c ns hl (fun i hi=>by
      have:=hcv i (by omega)
      have h2:=hv i (by omega)
      rw[this] at h2
      rw[(hc i (by omega)).2]
      have h3:=VR.v_inv (G:=G) (w:=w) (.d h2)
      rw[h3.1]) U hU
    refine .quiet h (u:=.string (strOfNums ns)) ?_ (.d (.v rfl))
    simp only[execOp,ho,hX]
    rw[Sem.run_bind,hr];rfl
def notNil:SV→Bool
  | .op _ _ | .d (.pp _ _)=>true
  | _=>false
theorem does_nilCheck {x:Operand}{s:SV} (ho:o.op=.nilCheck x) (h:Rel m0 w0 G E S F a w) (hx:evalO E x=some s) (hn:notNil s=true):Does P m0 w0 G E S F a w o s S F:=by
  have hv:=evalO_ok h hx
  refine .quiet h (u:=a.eval x) ?_ hv
  generalize hX:a.eval x=X at hv
  have:∃ A,X=.pointer (some A):=by
    cases hv with
    | op h=>exact⟨_,rfl⟩
    | d h=>cases h<;>first | exact⟨_,rfl⟩ | simp[notNil] at hn
    | _=>simp[notNil] at hn
  obtain⟨A,rfl⟩:=this
  simp only[execOp,ho,hX]
  rfl
def ifcS:SV→Option (TypeId×SV)
  | .d (.ifc t x)=>some (t, .d x)
  | .fc t s=>some (t,s)
  | _=>none
theorem ifcS_ok {s:SV}{t:TypeId}{s':SV}{u:Value} (h:ifcS s=some (t,s')) (hv:VR G w s u):∃ u',u=.iface t u'∧VR G w s' u':=by
  cases hv with
  | d h' => cases h' <;> simp only [ifcS, Option.some.injEq, Prod.mk.injEq, reduceCtorEq] at h
            obtain⟨rfl,rfl⟩:=h
            rename_i hp
            exact⟨_,rfl, .d hp⟩
  | fc h'=>simp only[ifcS,Option.some.injEq,Prod.mk.injEq] at h;obtain⟨rfl,rfl⟩:=h;exact⟨_,rfl,h'⟩
  | _=>simp[ifcS] at h
def zeroS (P:Program) (t:TypeId):Option SV :=
  match zeroOf P t with
  | some (.agg us)=>if us.toList.all Value.oneCell' then (constCells us.toList).map .ag else none
  | some z=>ofConst z
  | none=>none
theorem zeroS_ok {t:TypeId}{s:SV} (h:zeroS P t=some s):∃ z,zeroOf P t=some z∧VR G w s z:=by
  unfold zeroS at h
  split at h
  · rename_i us hz
    split at h
    · rename_i ha
      simp only[Option.map_eq_some_iff] at h
      obtain⟨cs,hc,rfl⟩:=h
      obtain⟨h1,h2⟩:=constCells_ok (G:=G) (w:=w) hc ha
      refine⟨_,hz,?_⟩
      have:=VR.ag (G:=G) (w:=w) (cs:=cs) (us:=us.toList) h1.symm (fun j hj=>(h2 j hj (by omega)).1) (fun j hj hj'=>(h2 j hj hj').2)
      simpa using this
    · cases h
  · rename_i z _ hz
    exact⟨_,hz,ofConst_ok h⟩
  · cases h
def concrete (P:Program) (t:TypeId):Bool:=match P.underlying t with | some (.interface _)=>false | some _=>true | none=>false
theorem concrete_ok {t:TypeId} (h:concrete P t=true):∃ d,P.underlying t=some d∧∀ ms,d≠.interface ms:=by
  unfold concrete at h
  split at h
  · cases h
  · rename_i d hne hd;exact⟨d,hd,fun ms e=>hne ms (e▸rfl)⟩
  · cases h
theorem VR.tu2 {s t:SV}{u v:Value} (h:VR G w s u) (k:VR G w t v):VR G w (.tu [s,t]) (.tuple #[u,v]):=by
  have:=VR.tu (G:=G) (w:=w) (cs:=[s,t]) (us:=[u,v]) rfl (fun j hj hj'=>by
    match j,hj with
    | 0,_=>exact h
    | 1,_=>exact k)
  simpa using this
theorem does_assert2 {x:Operand}{T t A:TypeId}{s s' z:SV} (ho:o.op=.typeAssert x T A true) (h:Rel m0 w0 G E S F a w) (hx:evalO E x=some s) (hi:ifcS s=some (t,s')) (hA:concrete P A=true) (hz:zeroS P A=some z) :
    Does P m0 w0 G E S F a w o (if t=A then .tu [s', .d (.v (.bool true))] else .tu [z, .d (.v (.bool false))]) S F:=by
  obtain⟨u',hX,hu⟩:=ifcS_ok hi (evalO_ok h hx)
  obtain⟨d,hd,hne⟩:=concrete_ok hA
  obtain⟨zv,hz1,hz2⟩:=zeroS_ok (G:=G) (w:=w) hz
  by_cases e:t=A
  · rw[if_pos e]
    refine .quiet h (u:=.tuple #[u', .bool true]) ?_ (.tu2 hu (.d (.v rfl)))
    simp only[execOp,ho,hX,Instr.typeAssert]
    rw[Sem.run_bind,Sem.run_bind,run_under hd]
    simp only[Result.andThen_ok]
    cases d<;>first | exact absurd rfl (hne _)|(simp[e])
  · rw[if_neg e]
    refine .quiet h (u:=.tuple #[zv, .bool false]) ?_ (.tu2 hz2 (.d (.v rfl)))
    simp only[execOp,ho,hX,Instr.typeAssert]
    rw[Sem.run_bind,Sem.run_bind,run_under hd]
    simp only[Result.andThen_ok]
    cases d<;>first | exact absurd rfl (hne _)|(simp[e,run_zero hz1])
theorem does_assert2_nil {x:Operand}{T A:TypeId}{z:SV} (ho:o.op=.typeAssert x T A true) (h:Rel m0 w0 G E S F a w) (hx:evalO E x=some (.d (.v .nilIface))) (hA:concrete P A=true) (hz:zeroS P A=some z) :
    Does P m0 w0 G E S F a w o (.tu [z, .d (.v (.bool false))]) S F:=by
  have hX:=evalO_v h hx
  obtain⟨d,hd,hne⟩:=concrete_ok hA
  obtain⟨zv,hz1,hz2⟩:=zeroS_ok (G:=G) (w:=w) hz
  refine .quiet h (u:=.tuple #[zv, .bool false]) ?_ (.tu2 hz2 (.d (.v rfl)))
  simp only[execOp,ho,hX,Instr.typeAssert]
  rw[Sem.run_bind,Sem.run_bind,run_under hd]
  simp only[Result.andThen_ok]
  cases d<;>first | exact absurd rfl (hne _)|(simp[run_zero hz1])
theorem does_assert1 {x:Operand}{T A:TypeId}{s s':SV} (ho:o.op=.typeAssert x T A false) (h:Rel m0 w0 G E S F a w) (hx:evalO E x=some s) (hi:ifcS s=some (A,s')) (hA:concrete P A=true) :
    Does P m0 w0 G E S F a w o s' S F:=by
  obtain⟨u',hX,hu⟩:=ifcS_ok hi (evalO_ok h hx)
  obtain⟨d,hd,hne⟩:=concrete_ok hA
  refine .quiet h (u:=u') ?_ hu
  simp only[execOp,ho,hX,Instr.typeAssert]
  rw[Sem.run_bind,Sem.run_bind,run_under hd]
  simp only[Result.andThen_ok]
  cases d<;>first | exact absurd rfl (hne _) | simp
def nilTest (P:Program) (T:TypeId) (s:SV):Option Bool :=
  match P.underlying T with
  | some (.interface _)=>match s with
    | .d (.v .nilIface)=>some true
    | .d (.ifc _ _) | .fc _ _=>some false
    | _=>none
  | some (.pointer _)=>match s with
    | .d (.v (.pointer none))=>some true
    | .op _ _ | .d (.pp _ _)=>some false
    | _=>none
  | some (.func ..)=>match s with
    | .d (.v .nilFunc)=>some true
    | .fn _ _ _ | .d (.fn _ _ _)=>some false
    | _=>none
  | _=>none
def isNil:Value→Bool
  | .nilIface | .pointer none | .nilFunc=>true
  | _=>false
theorem run_eqGuard_const {op:BinOp}{T:TypeId}{X Y:Operand}{x y:Value} (hY:∃ c,Y=.const c) (hx:∀ us,x≠.agg us):(eqGuard op T X Y x y).run P w=.ok () w:=by
  obtain⟨c,rfl⟩:=hY
  unfold eqGuard
  cases op<;>try rfl
  all_goals
    simp only[Bool.not_true,Bool.false_eq_true,if_false]
    cases x<;>cases y<;>first | rfl | (exact absurd rfl (hx _)) | simp
def nilFor (P:Program) (T:TypeId) (c:Value):Bool:=match P.underlying T,c with | some (.interface _), .nilIface | some (.pointer _), .pointer none | some (.func ..), .nilFunc=>true | _,_=>false
theorem nilTest_ok {T:TypeId}{s:SV}{b:Bool}{u c:Value} (hb:nilTest P T s=some b) (hc:isNil c=true) (hT:nilFor P T c=true) (hu:VR G w s u) :
    (Op.equal T u c).run P w=.ok b w∧(∀ us,u≠.agg us)∧(∀ k n,u≠.int k n)∧(∀ k n,u≠.float k n)∧(∀ k n m,u≠.complex k n m)∧(∀ s,u≠.string s):=by
  have key:∀ (d:TypeDesc),P.underlying T=some d→(Op.equal T u c).run P w=(Op.equalIn (9999+1) T u c).run P w:=fun d hd=>rfl
  unfold nilTest at hb
  split at hb
  · rename_i ms hd
    unfold nilFor at hT
    rw[hd] at hT
    have:c=.nilIface:=by split at hT<;>simp_all
    subst this
    rw[key _ hd,Op.equalIn,Sem.run_bind,run_under hd]
    split at hb
    · simp only[Option.some.injEq] at hb;subst hb
      obtain⟨rfl,_⟩:=hu.v_inv
      exact⟨rfl,nofun,nofun,nofun,nofun,nofun⟩
    · simp only[Option.some.injEq] at hb;subst hb
      cases hu with | d h=>cases h;exact⟨rfl,nofun,nofun,nofun,nofun,nofun⟩
    · simp only[Option.some.injEq] at hb;subst hb
      cases hu;exact⟨rfl,nofun,nofun,nofun,nofun,nofun⟩
    · cases hb
  · rename_i e hd
    unfold nilFor at hT
    rw[hd] at hT
    have:c=.pointer none:=by split at hT<;>simp_all
    subst this
    rw[key _ hd,Op.equalIn,Sem.run_bind,run_under hd]
    split at hb
    · simp only[Option.some.injEq] at hb;subst hb
      obtain⟨rfl,_⟩:=hu.v_inv
      exact⟨rfl,nofun,nofun,nofun,nofun,nofun⟩
    · simp only[Option.some.injEq] at hb;subst hb
      cases hu;exact⟨rfl,nofun,nofun,nofun,nofun,nofun⟩
    · simp only[Option.some.injEq] at hb;subst hb
      cases hu with | d h=>cases h;exact⟨rfl,nofun,nofun,nofun,nofun,nofun⟩
    · cases hb
  · rename_i hd
    unfold nilFor at hT
    rw[hd] at hT
    have:c=.nilFunc:=by split at hT<;>simp_all
    subst this
    rw[key _ hd,Op.equalIn,Sem.run_bind,run_under hd]
    split at hb
    · simp only[Option.some.injEq] at hb;subst hb
      obtain⟨rfl,_⟩:=hu.v_inv
      exact⟨rfl,nofun,nofun,nofun,nofun,nofun⟩
    · simp only[Option.some.injEq] at hb;subst hb
      cases hu;exact⟨rfl,nofun,nofun,nofun,nofun,nofun⟩
    · simp only[Option.some.injEq] at hb;subst hb
      cases hu with | d h=>cases h;exact⟨rfl,nofun,nofun,nofun,nofun,nofun⟩
    · cases hb
  · cases hb
theorem does_nil_eq {op:BinOp}{T T2:TypeId}{x:Operand}{c:Value}{s:SV}{b:Bool} (ho:o.op=.binOp op T x (.const c) T2) (hop:op=.eql∨op=.neq) (h:Rel m0 w0 G E S F a w) (hx:evalO E x=some s) (hb:nilTest P T s=some b) (hn:nilFor P T c=true) :
    Does P m0 w0 G E S F a w o (.d (.v (.bool (if op=.eql then b else !b)))) S F:=by
  have hc:isNil c=true:=by unfold nilFor at hn;split at hn<;>first | rfl | cases hn
  obtain⟨h1,h2,h3,h4,h5,h6⟩:=nilTest_ok (c:=c) hb hc hn (evalO_ok h hx)
  refine .quiet h (u:=.bool (if op=.eql then b else !b)) ?_ (.d (.v rfl))
  simp only[execOp,ho]
  have hg:=run_eqGuard_const (P:=P) (w:=w) (op:=op) (T:=T) (X:=x) (Y:=.const c) (x:=a.eval x) (y:=c) ⟨c,rfl⟩ h2
  have he:(Act.eval a (.const c))=c:=rfl
  rw[he]
  simp only[Sem.run_bind,hg,Result.andThen_ok]
  rcases hop with rfl | rfl<;>(generalize a.eval x=X at *;cases X<;>first | exact absurd rfl (h3 _ _) | exact absurd rfl (h4 _ _) | exact absurd rfl (h5 _ _ _) | exact absurd rfl (h6 _)|(simp[binOp,h1]))
end
end Go.Sh
