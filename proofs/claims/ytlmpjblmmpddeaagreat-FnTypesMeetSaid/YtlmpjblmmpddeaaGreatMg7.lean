/- Za and what follows it, one behind another. -/
import Derived.Test.YtlmpjblmmpddeaaGreatMg5
import Derived.Test.YtlmpjblmmpddeaaGreatMg6
set_option linter.unusedVariables false
set_option linter.unusedSimpArgs false
set_option maxRecDepth 100000
namespace Go.Sh
end Go.Sh
namespace Go.Proofs.YtlmpjblmmpddeaaGreat
open Go.Sh
variable {gl:Nat→Option D}
def skZ (z n:Nat) (cs:List Sk):Sk:=if n=0 then .nil else .row (some z) n cs
theorem skZ_pos {z n:Nat}{cs:List Sk} (h:n≠0):skZ z n cs=.row (some z) n cs:=if_neg h
@[simp] theorem skZ_zero (z:Nat) (cs:List Sk):skZ z 0 cs=.nil:=if_pos rfl
theorem skZ_data {z n:Nat}{cs:List Sk} (h:n=0→cs=[]):(skZ z n cs).data=.ps (dataL cs) n:=by
  unfold skZ
  split
  · rename_i h1;subst h1;rw[h rfl];rfl
  · rfl
abbrev txK (ns:List ByteArray):List Sk:=ns.map fun s=>.d (.string s)
def skT (ns:List ByteArray):Sk:=skZ 1 ns.length (txK ns)
theorem txK_data:∀ ns:List ByteArray,dataL (txK ns)=ns.map dS
  | []=>rfl
  | s::r=>by
    have:=txK_data r
    simp only[List.map_cons,dataL,Sk.data]
    rw[this]
theorem skT_data (ns:List ByteArray):(skT ns).data=namesD ns:=by
  unfold skT
  rw[skZ_data (fun h=>by rw[List.eq_nil_of_length_eq_zero h];rfl),txK_data]
mutual
def Val.sz:Val→List Sk
  | .mk k n t l ns=>[.d (.int .i64 k), .d (.int .i64 n), .d (.string t),skZ 5 l.length (valsZ l),skT ns]
def valsZ:List Val→List Sk
  | []=>[]
  | v::r=>v.sz++valsZ r
end
@[simp] theorem sz_len (v:Val):v.sz.length=5:=by cases v;rfl
mutual
theorem sz_data:∀ v:Val,dataL v.sz=v.cells
  | .mk k n t l ns=>by
    have:(skZ 5 l.length (valsZ l)).data=valsD l:=by
      rw[skZ_data (fun h=>by rw[List.eq_nil_of_length_eq_zero h];rfl),valsZ_data l]
    simp[Val.sz,dataL,Sk.data,Val.cells,skT_data,this]
theorem valsZ_data:∀ l:List Val,dataL (valsZ l)=valsCells l
  | []=>rfl
  | v::r=>by simp[valsZ,dataL_app,valsCells,sz_data v,valsZ_data r]
end
theorem ld_z {z n:Nat}{sk:List Sk}{X:Ld} (h:X.sh=skZ z n sk):(X=.nil∧n=0)∨∃ b cs,X=.row (some z) b n cs∧shs cs=sk∧n≠0:=by
  unfold skZ at h
  split at h
  · rename_i hn
    cases X with
    | nil=>exact .inl ⟨rfl,hn⟩
    | d v=>simp[Ld.sh] at h
    | row z b m cs=>simp[Ld.sh] at h
  · rename_i hn
    cases X with
    | nil=>simp[Ld.sh] at h
    | d v=>simp[Ld.sh] at h
    | row z b m cs =>
      simp only[Ld.sh,Sk.row.injEq] at h
      obtain⟨rfl,rfl,h3⟩:=h
      exact .inr ⟨b,cs,rfl,h3,hn⟩
theorem z_one {z n:Nat}{sk:List Sk}{X:Ld} (h:X.sh=skZ z n sk):X.sv.one=true∧X.sv.cells=[X.sv]∧X.sv.cell=true:=by
  rcases ld_z h with ⟨rfl,_⟩ | ⟨b,cs,rfl,_⟩<;>exact⟨rfl,rfl,rfl⟩
theorem row_sh {z b n:Nat}{cs:List Ld}{sk:List Sk} (h:shs cs=sk) (hn:n≠0):(Ld.row (some z) b n cs).sh=skZ z n sk:=by
  rw[skZ_pos hn, ← h];rfl
theorem At.grow {S S':St}{lo hi lo2 hi' b q n m:Nat}{z z':Option Nat}{cs X:List Ld} (ha:At S lo hi [.row z b n cs]) (hX:At S' lo2 hi' X) (hq:S'.B q=some (svs (cs++X))) (ho:∀ x,lo≤x→x<hi→x≠b→S'.B x=S.B x)
    (h1:hi≤lo2) (h2:hi≤hi') (h3:lo≤q) (h4:q<hi') (h5:∀ p∈varsL X,p.1≠q) (h6:hi≤q):At S' lo hi' [.row z' q m (cs++X)]:=by
  have hr:=ha.rng
  have hn:=ha.nodup
  have hh:=ha.has
  simp only[varsL,Ld.vars,List.append_nil,List.map_cons,List.nodup_cons,List.forall_mem_cons] at hr hn hh
  have hc:At S' lo hi cs:=⟨fun p hp=>by
    rw[ho p.1 (hr.2 p hp).1 (hr.2 p hp).2 (fun e=>hn.1 (List.mem_map.2 ⟨p,hp,e⟩))];exact hh.2 p hp,hn.2,hr.2⟩
  have hlo:lo≤lo2:=by have:=hr.1;omega
  refine .row hq h3 h4 ⟨fun p hp=>?_,?_,fun p hp=>?_⟩ (fun p hp=>?_)
  · rw[varsL_app] at hp
    rcases List.mem_append.1 hp with hp | hp
    · exact hc.has p hp
    · exact hX.has p hp
  · rw[varsL_app,List.map_append]
    refine List.nodup_append.2 ⟨hc.nodup,hX.nodup,fun x hx y hy e=>?_⟩
    obtain⟨p,hp,rfl⟩:=List.mem_map.1 hx
    obtain⟨p',hp',rfl⟩:=List.mem_map.1 hy
    have:=hc.rng p hp
    have:=hX.rng p' hp'
    omega
  · rw[varsL_app] at hp
    rcases List.mem_append.1 hp with hp | hp
    · have:=hc.rng p hp;omega
    · have:=hX.rng p hp;omega
  · rw[varsL_app] at hp
    rcases List.mem_append.1 hp with hp | hp
    · have:=hc.rng p hp;omega
    · exact h5 p hp
mutual
def Typ.sk (e:Bool):Typ→List Sk
  | .mk t l b=>[.d (.string t),skR e l.length (typsSk e l), .d (.bool b)]
def typsSk (e:Bool):List Typ→List Sk
  | []=>[]
  | v::r=>v.sk e++typsSk e r
end
def Arg.sk (e:Bool) (a:Arg):List Sk:=.d (.string a.name)::(a.ty.sk e++.d (.bool a.has)::a.els.sk e)
def argsSk (e:Bool) (l:List Arg):List Sk:=l.flatMap (Arg.sk e)
def Fld.sk (e:Bool) (a:Fld):List Sk:=.d (.string a.name)::skR e a.args.length (argsSk e a.args)::a.ty.sk e
def fldsSk (e:Bool) (l:List Fld):List Sk:=l.flatMap (Fld.sk e)
def Def.sk (e:Bool) (a:Def):List Sk:=[.d (.string a.name), .d (.int .i64 a.kind),skR e a.flds.length (fldsSk e a.flds),skS e a.words]
mutual
def Typ.sz:Typ→List Sk
  | .mk t l b=>[.d (.string t),skZ 3 l.length (typsZ l), .d (.bool b)]
def typsZ:List Typ→List Sk
  | []=>[]
  | v::r=>v.sz++typsZ r
end
@[simp] theorem typ_szlen (v:Typ):v.sz.length=3:=by cases v;rfl
mutual
theorem typ_szdata:∀ v:Typ,dataL v.sz=v.cells
  | .mk t l b=>by
    have:(skZ 3 l.length (typsZ l)).data=typsD l:=by
      rw[skZ_data (fun h=>by rw[List.eq_nil_of_length_eq_zero h];simp[typsZ]),typsZ_data l]
    simp[Typ.sz,dataL,Sk.data,Typ.cells,this]
theorem typsZ_data:∀ l:List Typ,dataL (typsZ l)=typsCells l
  | []=>by simp[typsZ,dataL,typsCells]
  | v::r=>by simp[typsZ,dataL_app,typsCells,typ_szdata v,typsZ_data r]
end
def rowsZ {α:Type} (f:α→List Sk) (l:List α):List Sk:=l.flatMap f
theorem rowsZ_len {α:Type}{f:α→List Sk}{k:Nat} (h:∀ x,(f x).length=k) (l:List α):(rowsZ f l).length=l.length*k:=row_len h l
theorem rowsZ_data {α:Type}{f:α→List Sk}{g:α→List D} (h:∀ x,dataL (f x)=g x):∀ l:List α,dataL (rowsZ f l)=l.flatMap g
  | []=>rfl
  | x::r=>by
    have:=rowsZ_data h r
    simp only[rowsZ,List.flatMap_cons,dataL_app] at this ⊢
    rw[h,this]
def Arg.sz (a:Arg):List Sk:=.d (.string a.name)::(a.ty.sz++.d (.bool a.has)::a.els.sz)
@[simp] theorem arg_szlen (a:Arg):a.sz.length=10:=by simp[Arg.sz]
theorem arg_szdata (a:Arg):dataL a.sz=a.cells:=by simp[Arg.sz,dataL,dataL_app,Sk.data,Arg.cells,sz_data,typ_szdata]
def Fld.sz (a:Fld):List Sk:=.d (.string a.name)::skZ 10 a.args.length (rowsZ Arg.sz a.args)::a.ty.sz
@[simp] theorem fld_szlen (a:Fld):a.sz.length=5:=by simp[Fld.sz]
theorem fld_szdata (a:Fld):dataL a.sz=a.cells:=by
  have:(skZ 10 a.args.length (rowsZ Arg.sz a.args)).data=argsD a.args:=by
    rw[skZ_data (fun h=>by rw[List.eq_nil_of_length_eq_zero h];rfl),rowsZ_data arg_szdata];rfl
  simp[Fld.sz,dataL,Sk.data,Fld.cells,this,typ_szdata]
def Def.sz (a:Def):List Sk:=[.d (.string a.name), .d (.int .i64 a.kind),skZ 5 a.flds.length (rowsZ Fld.sz a.flds),skT a.words]
@[simp] theorem def_szlen (a:Def):a.sz.length=4:=by simp[Def.sz]
theorem def_szdata (a:Def):dataL a.sz=a.cells:=by
  have:(skZ 5 a.flds.length (rowsZ Fld.sz a.flds)).data=fldsD a.flds:=by
    rw[skZ_data (fun h=>by rw[List.eq_nil_of_length_eq_zero h];rfl),rowsZ_data fld_szdata];rfl
  simp[Def.sz,dataL,Sk.data,Def.cells,this,skT_data]
def skDefs (l:List Def):Sk:=skZ 4 l.length (rowsZ Def.sz l)
theorem skDefs_data (l:List Def):(skDefs l).data=defsD l:=by
  unfold skDefs
  rw[skZ_data (fun h=>by rw[List.eq_nil_of_length_eq_zero h];rfl),rowsZ_data def_szdata];rfl
end Go.Proofs.YtlmpjblmmpddeaaGreat
namespace Go.Proofs.YtlmpjblmmpddeaaGreat
open Go.Sh
def AccZ (S:St) (lo hi z n:Nat) (sk:List Sk) (X:SV):Prop:=∃ x:Ld,X=x.sv∧x.sh=skZ z n sk∧At S lo hi [x]
theorem AccZ.nil {S:St}{lo hi z:Nat}:AccZ S lo hi z 0 [] (.fl [] 0):=⟨.nil,rfl,by simp[Ld.sh], .cons_nil .nil⟩
theorem AccZ.keep {S S':St}{lo hi z n lo' hi':Nat}{sk:List Sk}{X:SV} (h:AccZ S lo hi z n sk X) (hB:∀ b,lo≤b→b<hi→S'.B b=S.B b) (h1:lo'≤lo) (h2:hi≤hi'):AccZ S' lo' hi' z n sk X:=by
  obtain⟨x,e1,e2,e3⟩:=h
  exact⟨x,e1,e2,(e3.keep hB).le h1 h2⟩
theorem AccZ.one {S:St}{lo hi z n:Nat}{sk:List Sk}{X:SV} (h:AccZ S lo hi z n sk X):X.one=true∧X.cells=[X]∧X.cell=true:=by
  obtain⟨x,rfl,e2,_⟩:=h
  exact z_one e2
structure SameT (S S':St):Prop where
  T:S'.T=S.T
  nx:S'.nx=S.nx
  n:S'.n=S.n
  gl:S'.gl=S.gl
  md:S'.md=S.md
theorem OpT_addZ {P:Program}{S1 S:St}{lo hi z n:Nat}{sk:List Sk}{X:SV}{N:List Ld}{xs:List SV}{lo2 hi2 hi' id:Nat}{dst:Option Nat}{T e by_:Nat}{K:Bool→SV→Eff→Prop}
    (h:AccZ S1 lo hi z n sk X) (hl:sk.length=n*z) (hS:∀ b,lo≤b→b<hi→S.B b=S1.B b) (hx:xs=svs N) (hN:At S lo2 hi2 N) (hNl:N.length=z) (hT:appOf P T=some (e,z,by_)) (hb:appBound n 1 by_)
    (h1:hi≤lo2) (h2:hi≤id) (h3:lo≤id) (h4:id<hi') (h5:hi2≤hi') (h6:lo≤lo2) (h7:∀ p∈varsL N,p.1≠id)
    (hK:∀ X' S' E',S.app id E'=S'→AccZ S' lo hi' z (n+1) (sk++shs N) X'→(∀ b,(b<lo∨hi≤b)→b≠id→S'.B b=S.B b)→SameT S S'→K true X' E'):OpT (evalAppend P S id dst T X (.ls xs 1)) K:=by
  obtain⟨x,rfl,e2,e3⟩:=h
  subst hx
  rcases ld_z e2 with ⟨rfl,h0⟩ | ⟨b',cs,rfl,hsc,hpos⟩
  · subst h0
    have hs:sk=[]:=List.eq_nil_of_length_eq_zero (by omega)
    subst hs
    have he:evalAppend P S id dst T (Ld.nil).sv (.ls (svs N) 1)=some (.sk id 1 z, .new (svs N)):=by
      rw[Ld.sv_nil,evalAppend_fl]
      simp[hT,hNl,onlyIf,hb]
    rw[he]
    have hB:∀ b,b≠id→(S.app id (.new (svs N))).B b=S.B b:=fun b hb=>upd_ne _ _ hb
    refine hK _ _ _ rfl ⟨.row (some z) id 1 N,rfl,?_,?_⟩ (fun b _ hb=>hB b hb) ⟨rfl,rfl,rfl,rfl,rfl⟩
    · rw[List.nil_append];exact row_sh rfl (by omega)
    · exact .row (upd_same _ _ _) h3 h4 ⟨fun p hp=>(hB p.1 (h7 p hp)).trans (hN.has p hp),hN.nodup,fun p hp=>by have:=hN.rng p hp;omega⟩ h7
  · have e4:At S lo hi [.row (some z) b' n cs]:=e3.keep hS
    have hbb:=e4.has (b',svs cs) (by simp[varsL,Ld.vars])
    have hrg:=e4.rng (b',svs cs) (by simp[varsL,Ld.vars])
    simp only at hbb hrg
    have hA:(svs cs).length=n*z:=by rw[svs_len, ← shs_len,hsc,hl]
    have htk:List.take (n*z) (svs cs)=svs cs:=List.take_of_length_le (by omega)
    have he:evalAppend P S id dst T (Ld.row (some z) b' n cs).sv (.ls (svs N) 1)=some (.sk id (n+1) z, .mov b' (svs cs++svs N)):=by
      rw[Ld.sv_row,rowV_some,evalAppend_sk,hbb,hT]
      have hA2:cs.length=n*z:=by rw[← svs_len,hA]
      have htk2:List.take (n*z) (svs cs)=svs cs:=htk
      simp[hNl,onlyIf,hb,hA2,htk2]
    rw[he]
    have hq:(S.app id (.mov b' (svs cs++svs N))).B id=some (svs (cs++N)):=by
      rw[svs_app];simp
    have hB:∀ b,b≠id→b≠b'→(S.app id (.mov b' (svs cs++svs N))).B b=S.B b:=fun b hb hb2=>by
      show upd (fun x=>if x=b' then none else S.B x) id _ b=_
      rw[upd_ne _ _ hb,if_neg hb2]
    have hN':At (S.app id (.mov b' (svs cs++svs N))) lo2 hi2 N:=⟨fun p hp=>(hB p.1 (h7 p hp) (fun e=>by have:=hN.rng p hp;omega)).trans (hN.has p hp),hN.nodup,hN.rng⟩
    refine hK _ _ _ rfl ⟨.row (some z) id (n+1) (cs++N),rfl,?_,?_⟩ (fun b hb1 hb2=>hB b hb2 (by omega)) ⟨rfl,rfl,rfl,rfl,rfl⟩
    · exact row_sh (by rw[shs_app,hsc]) (by omega)
    · exact e4.grow (lo2:=lo2) (hi':=hi') (hN'.le (Nat.le_refl _) h5) hq (fun x q1 q2 q3=>hB x (by omega) q3) h1 (by omega) h3 h4 h7 h2
theorem CallT.x {P:Program}{lo:Lo}{g:FuncId}{ss:List SV}{S:St}{K:Bool→SV→St→Prop}{Q:SV→St→Prop} (h:∃ r S',LCall P g ss S r S'∧Q r S') (hl:lo.loud=true) (k:∀ r S',Q r S'→K true r S'):CallT lo P g ss S K:=by
  obtain⟨r,S',h1,h2⟩:=h
  exact CallT.l h1 hl (k r S' h2)
structure Got (S S':St) (R:Nat) (rc:List SV) (X:List Ld):Prop where
  n:S'.n=S.n
  gl:S'.gl=S.gl
  md:S'.md=S.md
  nx:S.nx≤S'.nx
  rd:S'.B R=some rc
  old:∀ x,x<S.nx→x≠R→S'.B x=S.B x
  T:∀ x,x<S.nx→S'.T x=S.T x
  new:At S' S.nx S'.nx X
end Go.Proofs.YtlmpjblmmpddeaaGreat
namespace Go.Proofs.YtlmpjblmmpddeaaGreat
open Go.Sh
variable {gl:Nat→Option D}
abbrev rdP (c:List UInt8) (p:Nat):List SV:=[.d (codeD c), .d (dI (p:Int))]
theorem got_left {S:St}{b:Nat}{cs:List SV} (hb:b<S.nx):Got S (leftS S 0 [(b,cs)] []) b cs [] :=
  ⟨rfl,rfl,rfl,by simp,by simp,fun x h1 h2=>by simp[h2];omega,fun x h1=>by simp;omega, .nil⟩
theorem x_pick (S0:St) (b:Nat) (c:List UInt8) (p n:Nat) (hb:b<S0.nx) (h:S0.B b=some (rdP c p)) (hc:c.length≤2000) (hp:p≤1000000) (hn:1≤n) (hn2:n≤1000000) :
    ∃ r S',LCall Tryz.prog 67 [.op b 0, .d (dI n)] S0 r S'∧(r=.d (dI (pickK c p n))∧Got S0 S' b (rdP c (p+1)) []) :=
  ⟨_,_,l_pick S0 b c p n ⟨hb,h,hc,by omega⟩ (by omega) hn (by omega),rfl,got_left hb⟩
theorem x_of (S0:St) (b:Nat) (c:List UInt8) (p:Nat) (X:SV) (l:List ByteArray) (hX:TextRow X l) (hl:l≠[]) (hl2:l.length≤1000000) (hb:b<S0.nx) (h:S0.B b=some (rdP c p)) (hc:c.length≤2000) (hp:p≤1000000) :
    ∃ r S',LCall Tryz.prog 68 [.op b 0,X] S0 r S'∧(r=.d (dS (ofK c p l))∧Got S0 S' b (rdP c (p+1)) []) :=
  ⟨_,_,l_of S0 b c p X l hX hl (by omega) ⟨hb,h,hc,by omega⟩ (by omega),rfl,got_left hb⟩
def IntRow (X:SV) (l:List Int):Prop:=X=.fl (l.map fun i=>dI i) l.length∨X=.d (.ps (l.map fun i=>dI i) l.length)
def oneK (c:List UInt8) (p:Nat) (l:List Int):Int:=l.getD (pickK c p l.length) 0
theorem oneK_mem (c:List UInt8) (p:Nat) {l:List Int} (hl:l≠[]):oneK c p l∈l:=by
  have hll:0<l.length:=List.length_pos_iff.2 hl
  have:=pickK_lt c p l.length hll
  unfold oneK
  rw[List.getD_eq_getElem?_getD,List.getElem?_eq_getElem this]
  exact List.getElem_mem this
set_option maxHeartbeats 8000000 in
theorem x_one (S0:St) (b:Nat) (c:List UInt8) (p:Nat) (X:SV) (l:List Int) (hX:IntRow X l) (hl:l≠[]) (hl2:l.length≤1000000) (hb:b<S0.nx) (h:S0.B b=some (rdP c p)) (hc:c.length≤2000) (hp:p≤1000000) :
    ∃ r S',LCall Tryz.prog 98 [.op b 0,X] S0 r S'∧(r=.d (dI (oneK c p l))∧Got S0 S' b (rdP c (p+1)) []):=by
  have hll:0<l.length:=List.length_pos_iff.2 hl
  have hk:=pickK_lt c p l.length hll
  have hat:l[pickK c p l.length]?=some (oneK c p l):=by
    unfold oneK
    rw[List.getD_eq_getElem?_getD,List.getElem?_eq_getElem hk];rfl
  have hat2:∀ h,l[pickK c p l.length]'h=oneK c p l:=fun h=>by rw[List.getElem?_eq_getElem h] at hat;exact Option.some.inj hat
  rcases hX with rfl | rfl
  all_goals
    refine LCall.ex_ (md:=[]) Tryz.func98 rfl (by kernel_rfl) (by kernel_rfl) (n:=12) Tryz.ntmps98 (by simp) (by decide) rfl ?_
    simp[h]
    refine CallT.x (x_pick _ b c p l.length (by simp;omega) (by simp[h]) hc hp (by omega) hl2) rfl (fun r1 S1 h1=>?_)
    obtain⟨q1,hG1⟩:=h1
    subst q1
    have S1_n:=hG1.n
    try simp[h] at S1_n
    have S1_gl:=hG1.gl
    try simp[h,S1_n] at S1_gl
    have S1_md:=hG1.md
    try simp[h,S1_n,S1_gl] at S1_md
    have S1_nx:=hG1.nx
    try simp[h,S1_n,S1_gl,S1_md] at S1_nx
    have S1_rd:=hG1.rd
    simp[h,S1_n,S1_gl,S1_md,S1_rd,hk,hat2]
    exact⟨rfl,rfl,rfl,by simp;omega,by simpa using S1_rd,fun x h1 h2=>hG1.old x (by simp;omega) h2,fun x h1=>hG1.T x (by simp;omega), .nil⟩
abbrev bs (l:List UInt8):ByteArray:=⟨⟨l⟩⟩
theorem bs_from (l:List UInt8) (i j:Nat):(bs l).extract i j=bs ((l.take j).drop i):=by
  apply ByteArray.ext
  rw[ByteArray.data_extract]
  apply Array.ext'
  rw[Array.toList_extract]
  simp[List.extract,List.drop_take]
theorem bs_inj {a b:List UInt8}:bs a=bs b↔a=b:=⟨fun h=>by injection h with h;injection h,fun h=>by rw[h]⟩
abbrev blankU (c:UInt8):Bool:=c.toNat == 32 || c.toNat == 44
abbrev letU (c:UInt8):Bool:=letterB c.toNat
abbrev figU (c:UInt8):Bool:=figureB c.toNat
def signsL:List UInt8:=[123,125,40,41,91,93,58,61,33,36,64,124]
abbrev signU (c:UInt8):Bool:=signsL.contains c
def plainU (c:UInt8):Bool:=blankU c || letU c || signU c
def gapL (l:List UInt8):List UInt8:=l.dropWhile blankU
theorem gapL_len (l:List UInt8):(gapL l).length≤l.length:=by
  unfold gapL
  induction l with
  | nil=>simp
  | cons c r ih =>
    rw[List.dropWhile_cons]
    split
    · simp only[List.length_cons];omega
    · exact Nat.le_refl _
theorem gapL_mem {l:List UInt8}{c:UInt8} (h:c∈gapL l):c∈l:=(List.dropWhile_suffix _).subset h
theorem gapL_head {l r:List UInt8}{c:UInt8} (h:gapL l=c::r):blankU c=false:=by
  unfold gapL at h
  induction l with
  | nil=>simp at h
  | cons d l ih =>
    rw[List.dropWhile_cons] at h
    split at h
    · exact ih h
    · rename_i hd
      simp only[List.cons.injEq] at h
      rw[← h.1];simpa using hd
theorem bs_len (l:List UInt8):(bs l).size=l.length:=rfl
theorem bs_tail (c:UInt8) (r:List UInt8) (j:Nat) (hj:r.length+1≤j):(bs (c::r)).extract 1 j=bs r:=by
  rw[bs_from,List.take_of_length_le (by simpa using hj)];rfl
theorem plain_hash {c:UInt8} (h:plainU c=true):¬ ((c.toNat:Int)=35)∧¬ ((c.toNat:Int)=9)∧¬ ((c.toNat:Int)=10)∧¬ ((c.toNat:Int)=13):=by
  have:∀ n:Nat,n∈[35,9,10,13]→c.toNat≠n:=fun n hn e=>by
    have hc:c=UInt8.ofNat n:=by rw[← e];simp
    subst hc
    simp at hn
    rcases hn with rfl | rfl | rfl | rfl<;>revert h<;>decide
  refine⟨?_,?_,?_,?_⟩
  · have:=this 35 (by simp);omega
  · have:=this 9 (by simp);omega
  · have:=this 10 (by simp);omega
  · have:=this 13 (by simp);omega
theorem byteI_bs (l:List UInt8) (i:Nat) (h:i<l.length):byteI (bs l) i=(l[i].toNat:Int):=by
  unfold byteI
  simp[h]
theorem blank_of {c:UInt8} (h:c.toNat=32∨c.toNat=44):blankU c=true:=by
  unfold blankU
  rcases h with h | h<;>rw[h]<;>rfl
set_option maxHeartbeats 2000000 in
theorem p_l3Gap (l:List UInt8) (hp:∀ c∈l,plainU c=true) (hl:l.length≤1048576):PCall Tryz.prog gl 190 [dS (bs l)] (dS (bs (gapL l))):=by
  refine PCall.by_ (md:=[]) Tryz.func190 rfl (by kernel_rfl) (n:=48) Tryz.ntmps190 (by simp) (by decide) rfl ?_
  simp
  refine LoopT.round (fun E S=>∃ (r:List UInt8),(gapL r=gapL l)∧(∀ c∈r,plainU c=true)∧(r.length≤l.length)∧E 0=some (.d (dS (bs r)))) (fun E _=>match E 0 with | some (.d (.v (.string s)))=>s.size | _=>0) ⟨l,rfl,hp,Nat.le_refl _,by simp⟩ ?_
  rintro E S hk ⟨r,hr,hm,hrl,h0⟩
  have hn:S.n=48:=by first | (simpa using hk.n)|(have hh:=hk.n;simp at hh;exact hh)
  have hg:S.gl=gl:=by first | (simpa using hk.gl)|(have hh:=hk.gl;simp at hh;exact hh)
  have hmd:S.md=[]:=by first | (simpa using hk.md)|(have hh:=hk.md;simp at hh;exact hh)
  simp[h0,hn,hg,hmd]
  cases r with
  | nil =>
    simp[h0,hn,hg,hmd,bs_len]
    exact hr.symm
  | cons c r =>
    have hb0:byteI (bs (c::r)) 0=(c.toNat:Int):=byteI_bs _ 0 (by simp)
    obtain⟨n1,n2,n3,n4⟩:=plain_hash (hm c (by simp))
    have ht:=bs_tail c r (r.length+1) (Nat.le_refl _)
    have hrl2:r.length+1≤l.length:=by simpa using hrl
    have yes:blankU c=true→gapL r=gapL l:=fun h=>by rw[← hr];simp[gapL,List.dropWhile_cons,h]
    simp[h0,hn,hg,hmd,bs_len,hb0,n1,n2,n3,n4,ht]
    refine BrT.dec (fun c1=>?_) (fun c1=>?_)
    · simp[h0,hn,hg,hmd,bs_len,hb0,n1,n2,n3,n4,ht,c1]
      refine⟨by omega,r,yes (blank_of (.inl (by omega))),fun x hx=>hm x (List.mem_cons_of_mem _ hx),by omega,rfl⟩
    · simp[h0,hn,hg,hmd,bs_len,hb0,n1,n2,n3,n4,ht,c1]
      refine BrT.dec (fun c2=>?_) (fun c2=>?_)
      · simp[h0,hn,hg,hmd,bs_len,hb0,n1,n2,n3,n4,ht,c1,c2]
        exact⟨by omega,r,yes (blank_of (.inr (by omega))),fun x hx=>hm x (List.mem_cons_of_mem _ hx),by omega,rfl⟩
      · simp[h0,hn,hg,hmd,bs_len,hb0,n1,n2,n3,n4,ht,c1,c2]
        have no:blankU c=false:=by
          unfold blankU
          simp only[Bool.or_eq_false_iff,beq_eq_false_iff_ne]
          omega
        rw[← hr];simp[gapL,List.dropWhile_cons,no]
def wordL (l:List UInt8):List UInt8:=l.takeWhile fun c=>letU c || figU c
def oneL:List UInt8→List UInt8
  | []=>[]
  | c::r=>if signU c=true then [c] else wordL (c::r)
abbrev sgn:ByteArray:=⟨#[123,125,40,41,91,93,58,61,33,36,64,124]⟩
theorem p_l3Sign (c:UInt8) (r:List UInt8) (h46:c≠46) (hl:r.length≤1048576):PCall Tryz.prog gl 217 [dS (bs (c::r))] (dS (bs (if signU c=true then [c] else []))):=by
  have hb0:byteI (bs (c::r)) 0=(c.toNat:Int):=byteI_bs _ 0 (by simp)
  have hdot:¬ bs ((c::r).take 3)=⟨#[46,46,46]⟩:=fun e=>h46 (by
    have e2:bs ((c::r).take 3)=bs [46,46,46]:=e
    rw[bs_inj] at e2
    simp only[List.take_succ_cons,List.cons.injEq] at e2
    exact e2.1)
  have hx3:(bs (c::r)).extract 0 3=bs ((c::r).take 3):=by rw[bs_from];rfl
  have hx1:(bs (c::r)).extract 0 1=bs [c]:=by rw[bs_from];rfl
  refine PCall.by_ (md:=[]) Tryz.func217 rfl (by kernel_rfl) (n:=23) Tryz.ntmps217 (by simp) (by decide) rfl ?_
  simp[bs_len,hb0,hx3,hdot,hx1,h46]
  refine BrT.dec (fun c3=>?_) (fun c3=>?_)
  all_goals
    simp[bs_len,hb0,hx3,hdot,hx1,h46,c3]
    refine LoopT.round (fun E S=>∃ (i:Nat),(i≤12)∧(∀ j,j<i→signsL[j]?≠some c)∧E 0=some (.d (dS (bs (c::r))))∧E 3=some (.d (dI i))) (upTo 3 12) ⟨0,by simp[bs_len,hb0,hx3,hdot,hx1,h46]⟩ ?_
    rintro E S hk ⟨i,hi,hno,h0,h3⟩
    have hn:S.n=23:=by first | (simpa using hk.n)|(have hh:=hk.n;simp[bs_len,hb0,hx3,hdot,hx1,h46] at hh;exact hh)
    have hg:S.gl=gl:=by first | (simpa using hk.gl)|(have hh:=hk.gl;simp[bs_len,hb0,hx3,hdot,hx1,h46] at hh;exact hh)
    have hmd:S.md=[]:=by first | (simpa using hk.md)|(have hh:=hk.md;simp[bs_len,hb0,hx3,hdot,hx1,h46] at hh;exact hh)
    simp[bs_len,hb0,hx3,hdot,hx1,h46,h0,h3,hn,hg,hmd]
    have w:=wrap64 (n:=(i:Int)+1) (by omega) (by omega)
    refine BrT.dec (fun ci=>?_) (fun ci=>?_)
    · have hi2:i<12:=by omega
      have hat:byteI sgn i=((signsL.getD i 0).toNat:Int):=rfl
      have hsl:i<signsL.length:=hi2
      simp[bs_len,hb0,hx3,hdot,hx1,h46,h0,h3,hn,hg,hmd,w,ci]
      refine⟨DrawT.mk (by kernel_rfl),?_⟩
      refine BrT.dec (fun ce=>?_) (fun ce=>?_)
      · have hc:signsL[i]?=some c:=by
          rw[hat] at ce
          have e:c=signsL.getD i 0:=UInt8.toNat_inj.1 (by omega)
          rw[e,List.getD_eq_getElem?_getD,List.getElem?_eq_getElem hsl];rfl
        have hm:c∈signsL:=List.mem_of_getElem? hc
        simp[bs_len,hb0,hx3,hdot,hx1,h46,h0,h3,hn,hg,hmd,w,ci,ce,hm]
        omega
      · have hc:signsL[i]?≠some c:=fun e=>ce (by
          rw[hat,List.getD_eq_getElem?_getD,e];rfl)
        simp[bs_len,hb0,hx3,hdot,hx1,h46,h0,h3,hn,hg,hmd,w,ci,ce]
        refine⟨⟨i+1,hi2,fun j hj=>?_,rfl⟩,upTo_lt h3 (by simp) hi2⟩
        · rcases Nat.lt_or_ge j i with h | h
          · exact hno j h
          · have:j=i:=by omega
            rw[this];exact hc
    · have hm:¬ c∈signsL:=fun h=>by
        obtain⟨j,hj,e⟩:=List.getElem_of_mem h
        have hj2:j<12:=hj
        exact hno j (by omega) (by rw[List.getElem?_eq_getElem hj,e])
      simp[bs_len,hb0,hx3,hdot,hx1,h46,h0,h3,hn,hg,hmd,w,ci,hm]
theorem wordL_yes {c:UInt8}{r:List UInt8} (h:(letU c || figU c)=true):wordL (c::r)=c::wordL r:=by
  unfold wordL;rw[List.takeWhile_cons,h];rfl
theorem wordL_no {c:UInt8}{r:List UInt8} (h:(letU c || figU c)=false):wordL (c::r)=[]:=by
  unfold wordL;rw[List.takeWhile_cons,h];rfl
set_option maxHeartbeats 2000000 in
theorem p_l1Word (l:List UInt8) (hl:l.length≤1048576):PCall Tryz.prog gl 218 [dS (bs l)] (dS (bs (wordL l))):=by
  refine PCall.by_ (md:=[]) Tryz.func218 rfl (by kernel_rfl) (n:=25) Tryz.ntmps218 (by simp) (by decide) rfl ?_
  simp
  refine LoopT.round (fun E S=>∃ (i:Nat),(i≤l.length)∧(wordL l=l.take i++wordL (l.drop i))∧E 0=some (.d (dS (bs l)))∧E 3=some (.d (dI i))) (upTo 3 l.length) ⟨0,by simp⟩ ?_
  rintro E S hk ⟨i,hi,hp,h0,h3⟩
  have hn:S.n=25:=by first | (simpa using hk.n)|(have hh:=hk.n;simp at hh;exact hh)
  have hg:S.gl=gl:=by first | (simpa using hk.gl)|(have hh:=hk.gl;simp at hh;exact hh)
  have hmd:S.md=[]:=by first | (simpa using hk.md)|(have hh:=hk.md;simp at hh;exact hh)
  simp[h0,h3,hn,hg,hmd]
  have hx:(bs l).extract 0 i=bs (l.take i):=by rw[bs_from,List.drop_zero]
  have w:=wrap64 (n:=(i:Int)+1) (by omega) (by omega)
  refine BrT.dec (fun c1=>?_) (fun c1=>?_)
  · have hi2:i<l.length:=by simpa[bs_len] using c1
    have hb:=byteI_bs l i hi2
    have hd:l.drop i=l[i]::l.drop (i+1):=List.drop_eq_getElem_cons hi2
    have ht:l.take (i+1)=l.take i++[l[i]]:=List.take_succ_eq_append_getElem hi2
    generalize l[i]=c at hb hd ht
    have go:(letU c || figU c)=true→wordL l=l.take (i+1)++wordL (l.drop (i+1)):=fun h=>by rw[hp,hd,wordL_yes h,ht];simp
    have no:(letU c || figU c)=false→wordL l=l.take i:=fun h=>by rw[hp,hd,wordL_no h];simp
    simp[h0,h3,hn,hg,hmd,bs_len,hx,w,c1,hb,hi2]
    repeat refine⟨DrawT.mk (by kernel_rfl),?_⟩
    refine CallT.p0 ((p_l1Letter _)) (by first | rfl | (simp;done)|(simp[h0,h3,hn,hg,hmd,bs_len,hx,w,c1,hb,hi2];done)) (by first | rfl | (simp;done)|(simp;rfl)|(simp[h0,h3,hn,hg,hmd,bs_len,hx,w,c1,hb,hi2];done)) ?_
    simp[h0,h3,hn,hg,hmd,bs_len,hx,w,c1,hb,hi2]
    refine BrT.mk (fun c2=>?_) (fun c2=>?_)
    · simp[h0,h3,hn,hg,hmd,bs_len,hx,w,c1,hb,hi2,c2]
      exact⟨⟨i+1,hi2,go (by unfold letU;rw[c2];rfl),rfl⟩,upTo_lt h3 (by simp) hi2⟩
    · simp[h0,h3,hn,hg,hmd,bs_len,hx,w,c1,hb,hi2,c2]
      repeat refine⟨DrawT.mk (by kernel_rfl),?_⟩
      refine CallT.p0 ((p_l1Figure _)) (by first | rfl | (simp;done)|(simp[h0,h3,hn,hg,hmd,bs_len,hx,w,c1,hb,hi2,c2];done)) (by first | rfl | (simp;done)|(simp;rfl)|(simp[h0,h3,hn,hg,hmd,bs_len,hx,w,c1,hb,hi2,c2];done)) ?_
      simp[h0,h3,hn,hg,hmd,bs_len,hx,w,c1,hb,hi2,c2]
      refine BrT.mk (fun c3=>?_) (fun c3=>?_)
      · simp[h0,h3,hn,hg,hmd,bs_len,hx,w,c1,hb,hi2,c2,c3]
        exact⟨⟨i+1,hi2,go (by unfold letU figU;rw[c2,c3];rfl),rfl⟩,upTo_lt h3 (by simp) hi2⟩
      · simp[h0,h3,hn,hg,hmd,bs_len,hx,w,c1,hb,hi2,c2,c3]
        exact⟨by omega,by rw[no (by unfold letU figU;rw[c2,c3];rfl)]⟩
  · have hi3 : i = l.length := by have : ¬ i < l.length := by simpa [bs_len] using c1
                                  omega
    subst hi3
    simp[h0,h3,hn,hg,hmd,bs_len,hx,w,c1]
    rw[hp];simp[wordL]
theorem OpT_addF {P:Program}{S0 S1 S:St}{X:SV}{k l:List ByteArray}{id:Nat}{dst:Option Nat}{T e:TypeId}{by_:Nat}{K:Bool→SV→Eff→Prop} (h:AccN S0 S1 X k) (hn:S1.nx≤S.nx) (hTT:∀ i,i<S1.nx→S.T i=S1.T i) (hT:appOf P T=some (e,1,by_)) (hmd:S.md=[]) (hid:S0.nx≤id) (hid2:id<S.nx) (hb:appBound k.length l.length by_)
    (hK:∀ X' S' E',S.app id E'=S'→AccN S0 S' X' (k++l)→SameB S S'→(∀ i,i<S0.nx→S'.T i=S.T i)→K true X' E'):OpT (evalAppend P S id dst T X (.fl (l.map dS) l.length)) K:=by
  have e:evalAppend P S id dst T X (.fl (l.map dS) l.length)=evalAppend P S id dst T X (.d (namesD l)):=rfl
  rw[e]
  exact OpT_addN h hn hTT hT hmd hid hid2 hb hK
theorem signU_ne {c:UInt8} (h:plainU c=true):c≠46:=by rintro rfl;revert h;decide
theorem bs_nil_iff (l:List UInt8):bs l=⟨#[]⟩↔l=[]:=bs_inj (b:=[])
theorem wordL_len (l:List UInt8):(wordL l).length≤l.length:=(List.takeWhile_prefix _).length_le
theorem oneL_sign {c:UInt8} (r:List UInt8) (h:signU c=true):oneL (c::r)=[c]:=if_pos h
theorem oneL_word {c:UInt8} (r:List UInt8) (h:signU c=false):oneL (c::r)=wordL (c::r):=if_neg (by rw[h];simp)
set_option maxHeartbeats 2000000 in
theorem p_l3One (c:UInt8) (r:List UInt8) (hp:plainU c=true) (hb:blankU c=false) (hl:r.length+1≤1048576):PCall Tryz.prog gl 191 [dS (bs (c::r))] (dS (bs (oneL (c::r)))):=by
  have hb0:byteI (bs (c::r)) 0=(c.toNat:Int):=byteI_bs _ 0 (by simp)
  have hs:=fun gl=>p_l3Sign (gl:=gl) c r (signU_ne hp) (by omega)
  cases hc:signU c with
  | true =>
    rw[hc] at hs
    have ho:oneL (c::r)=[c]:=oneL_sign r hc
    rw[ho]
    have hne:¬ bs [c]=⟨#[]⟩:=by rw[bs_nil_iff];simp
    refine PCall.by_ (md:=[]) Tryz.func191 rfl (by kernel_rfl) (n:=56) Tryz.ntmps191 (by simp) (by decide) rfl ?_
    simp
    repeat refine⟨DrawT.mk (by kernel_rfl),?_⟩
    refine CallT.p0 ((hs _)) (by first | rfl | (simp;done)|(simp[hne];done)) (by first | rfl | (simp;done)|(simp;rfl)|(simp[hne];done)) ?_
    simp[hne]
    repeat refine⟨DrawT.mk (by kernel_rfl),?_⟩
    refine CallT.p0 ((hs _)) (by first | rfl | (simp;done)|(simp[hne];done)) (by first | rfl | (simp;done)|(simp;rfl)|(simp[hne];done)) ?_
    simp[hne]
  | false =>
    rw[hc] at hs
    have hlet:letU c=true:=by
      unfold plainU at hp
      rw[hb,hc] at hp
      simpa using hp
    have ho:oneL (c::r)=wordL (c::r):=oneL_word r hc
    have hl2:letterB (c.toNat:Int)=true:=hlet
    rw[ho]
    refine PCall.by_ (md:=[]) Tryz.func191 rfl (by kernel_rfl) (n:=56) Tryz.ntmps191 (by simp) (by decide) rfl ?_
    simp[bs_len,hb0,hl2]
    repeat refine⟨DrawT.mk (by kernel_rfl),?_⟩
    refine CallT.p0 ((hs _)) (by first | rfl | (simp;done)|(simp[bs_len,hb0,hl2];done)) (by first | rfl | (simp;done)|(simp;rfl)|(simp[bs_len,hb0,hl2];done)) ?_
    simp[bs_len,hb0,hl2]
    repeat refine⟨DrawT.mk (by kernel_rfl),?_⟩
    refine CallT.p0 ((p_l1Letter _)) (by first | rfl | (simp;done)|(simp[bs_len,hb0,hl2];done)) (by first | rfl | (simp;done)|(simp;rfl)|(simp[bs_len,hb0,hl2];done)) ?_
    simp[bs_len,hb0,hl2]
    repeat refine⟨DrawT.mk (by kernel_rfl),?_⟩
    refine CallT.p0 ((p_l1Word (c::r) (by simpa using hl))) (by first | rfl | (simp;done)|(simp[bs_len,hb0,hl2];done)) (by first | rfl | (simp;done)|(simp;rfl)|(simp[bs_len,hb0,hl2];done)) ?_
    simp[bs_len,hb0,hl2]
def wordsG:Nat→List UInt8→List (List UInt8)
  | 0,_=>[]
  | _+1,[]=>[]
  | f+1,c::r=>oneL (c::r)::wordsG f (gapL ((c::r).drop (oneL (c::r)).length))
def wordsL (l:List UInt8):List (List UInt8):=wordsG l.length (gapL l)
theorem oneL_pos (c:UInt8) (r:List UInt8) (hp:plainU c=true) (hb:blankU c=false):0<(oneL (c::r)).length:=by
  cases hc:signU c with
  | true=>rw[oneL_sign r hc];exact Nat.zero_lt_one
  | false =>
    have hlet:letU c=true:=by
      unfold plainU at hp
      rw[hb,hc] at hp
      simpa using hp
    rw[oneL_word r hc,wordL_yes (by rw[hlet];rfl)];exact Nat.zero_lt_succ _
theorem oneL_le (c:UInt8) (r:List UInt8):(oneL (c::r)).length≤r.length+1:=by
  cases hc:signU c with
  | true=>rw[oneL_sign r hc];exact Nat.succ_le_succ (Nat.zero_le _)
  | false=>rw[oneL_word r hc];exact wordL_len (c::r)
set_option maxHeartbeats 4000000 in
theorem p_Words (l:List UInt8) (hp:∀ c∈l,plainU c=true) (hl:l.length≤1500):PCall Tryz.prog gl 169 [dS (bs l)] (.tup [namesD ((wordsL l).map bs),dB true]):=by
  refine PCall.by_ (md:=[]) Tryz.func169 rfl (by kernel_rfl) (n:=32) Tryz.ntmps169 (by simp) (by decide) rfl ?_
  have hl0:¬ (1500:Int)<l.length:=by omega
  simp[bs_len,hl0]
  repeat refine⟨DrawT.mk (by kernel_rfl),?_⟩
  refine CallT.p0 ((p_l3Gap l hp (by omega))) (by first | rfl | (simp;done)|(simp[bs_len,hl0];done)) (by first | rfl | (simp;done)|(simp;rfl)|(simp[bs_len,hl0];done)) ?_
  simp[bs_len,hl0]
  refine LoopT.round (fun E S=>∃ (f:Nat) (r:List UInt8) (k:List (List UInt8)) (X:SV),(AccN (startS gl [] 0) S X (k.map bs))∧(wordsL l=k++wordsG f r)∧(r.length≤f)∧(∀ c∈r,plainU c=true)∧(∀ c q,r=c::q→blankU c=false)∧(k.length+r.length≤l.length)∧E 4=some (X)∧E 5=some (.d (dS (bs r)))) (fun E _=>match E 5 with | some (.d (.v (.string s)))=>s.size | _=>0) ⟨l.length,gapL l,[], .fl [] 0,by simp[bs_len,hl0];exact⟨AccN.nil,rfl,gapL_len l,fun c h=>hp c (gapL_mem h),fun c q h=>by have:=gapL_head h;simpa[blankU] using this,gapL_len l⟩⟩ ?_
  rintro E S hk ⟨f,r,k,X,hA,hr,hf,hm,hb,hkl,h4,h5⟩
  have hn:S.n=32:=by first | (simpa using hk.n)|(have hh:=hk.n;simp[bs_len,hl0] at hh;exact hh)
  have hg:S.gl=gl:=by first | (simpa using hk.gl)|(have hh:=hk.gl;simp[bs_len,hl0] at hh;exact hh)
  have hmd:S.md=[]:=by first | (simpa using hk.md)|(have hh:=hk.md;simp[bs_len,hl0] at hh;exact hh)
  simp[bs_len,hl0,h4,h5,hn,hg,hmd]
  cases r with
  | nil =>
    have hw:wordsL l=k:=by rw[hr];cases f<;>simp[wordsG]
    rw[hw]
    rcases hA with ⟨h0,rfl⟩ | ⟨q,_,_,rfl,_⟩
    · have:k=[]:=by simpa using h0
      subst this
      simp[bs_len,hl0,h4,h5,hn,hg,hmd]
    · simp[bs_len,hl0,h4,h5,hn,hg,hmd]
  | cons c r =>
    have hf2:r.length+1≤f:=by simpa using hf
    obtain⟨f,rfl⟩:∃ g,f=g+1:=⟨f - 1,by omega⟩
    have hkl2:k.length+(r.length+1)≤l.length:=by simpa using hkl
    have pc:=hm c (by simp)
    have bc:=hb c r rfl
    have op:=oneL_pos c r pc bc
    have ol:=oneL_le c r
    have one:=fun gl=>p_l3One (gl:=gl) c r pc bc (by omega)
    have hw:wordsL l=(k++[oneL (c::r)])++wordsG f (gapL ((c::r).drop (oneL (c::r)).length)):=by rw[hr];simp[wordsG]
    have hmw:∀ x∈(c::r).drop (oneL (c::r)).length,plainU x=true:=fun x hx=>hm x (List.mem_of_mem_drop hx)
    have hdl:((c::r).drop (oneL (c::r)).length).length+(oneL (c::r)).length=r.length+1:=by simp;omega
    have gap:=fun gl=>p_l3Gap (gl:=gl) ((c::r).drop (oneL (c::r)).length) hmw (by omega)
    have hne:¬ bs (oneL (c::r))=⟨#[]⟩:=by rw[bs_nil_iff];intro e;rw[e] at op;simp at op
    have hsl:(bs (c::r)).extract (oneL (c::r)).length (r.length+1)=bs ((c::r).drop (oneL (c::r)).length):=by
      rw[bs_from,List.take_of_length_le (by simp)]
    generalize hO:oneL (c::r)=w at *
    simp[bs_len,hl0,h4,h5,hn,hg,hmd,hne,hsl]
    repeat refine⟨DrawT.mk (by kernel_rfl),?_⟩
    refine CallT.p0 ((one _)) (by first | rfl | (simp;done)|(simp[bs_len,hl0,h4,h5,hn,hg,hmd,hne,hsl];done)) (by first | rfl | (simp;done)|(simp;rfl)|(simp[bs_len,hl0,h4,h5,hn,hg,hmd,hne,hsl];done)) ?_
    simp[bs_len,hl0,h4,h5,hn,hg,hmd,hne,hsl]
    refine OpT_addF (l:=[bs w]) (e:=9) (by_:=16) hA (by first | (simp;done)|(simp;omega)) (fun _ _=>rfl) (by kernel_rfl) (by simp[hmd]) (by simp) (by simp) (by unfold appBound;simp;omega) ?_
    intro X2 S2 E9 hE9 S2_A S2_B S2_T
    rw[hE9]
    have S2_nx:=S2_B.nx
    have S2_n:=S2_B.n
    have S2_gl:=S2_B.gl
    have S2_md:=S2_B.md
    simp at S2_nx S2_n S2_gl S2_md
    simp[bs_len,hl0,h4,h5,hn,hg,hmd,hne,hsl,S2_nx,S2_n,S2_gl,S2_md]
    refine⟨by omega,?_⟩
    have gl2:=fun (x:UInt8) (h:x∈gapL ((c::r).drop w.length))=>hmw x (gapL_mem h)
    have gle:=gapL_len ((c::r).drop w.length)
    generalize hq:(c::r).drop w.length=q at *
    repeat refine⟨DrawT.mk (by kernel_rfl),?_⟩
    refine CallT.p0 ((gap _)) (by first | rfl | (simp;done)|(simp[bs_len,hl0,h4,h5,hn,hg,hmd,hne,hsl,S2_nx,S2_n,S2_gl,S2_md];done)) (by first | rfl | (simp;done)|(simp;rfl)|(simp[bs_len,hl0,h4,h5,hn,hg,hmd,hne,hsl,S2_nx,S2_n,S2_gl,S2_md];done)) ?_
    simp[bs_len,hl0,h4,h5,hn,hg,hmd,hne,hsl,S2_nx,S2_n,S2_gl,S2_md]
    refine⟨⟨f,gapL q,k++[w],X2,?_,by rw[hw],by omega,gl2,fun x y h=>by have:=gapL_head h;simpa[blankU] using this,by simp;omega,rfl,rfl⟩,by omega⟩
    rw[List.map_append]
    exact S2_A.mono (by simp) (fun _ _=>rfl)
def wd (ws:List ByteArray) (i:Nat):ByteArray:=ws.getD i ⟨#[]⟩
abbrev rdC (ws:List ByteArray) (i:Nat) (bad:Bool):List SV:=[.d (namesD ws), .d (dI i), .d (dB bad)]
theorem p_peek (ws:List ByteArray) (i:Nat) (bad:Bool) (hl:ws.length≤1048576) (hi:i≤1048577):PCall Tryz.prog gl 196 [.pp [namesD ws,dI i,dB bad] 0] (dS (wd ws i)):=by
  refine PCall.by_ (md:=[]) Tryz.func196 rfl (by kernel_rfl) (n:=23) Tryz.ntmps196 (by simp) (by decide) rfl ?_
  simp
  refine⟨DrawT.mk (by kernel_rfl),?_⟩
  refine BrT.dec (fun c=>?_) (fun c=>?_)
  · have hi2:i<ws.length:=by omega
    have hw:ws[i]=wd ws i:=by unfold wd;rw[List.getD_eq_getElem?_getD,List.getElem?_eq_getElem hi2];rfl
    simp[c,hi2]
    refine⟨DrawT.mk (by kernel_rfl),?_⟩
    simp[c,hi2,hw]
  · have hw:wd ws i=⟨#[]⟩:=by unfold wd;rw[List.getD_eq_getElem?_getD,List.getElem?_eq_none (by omega)];rfl
    simp[c,hw]
theorem rd_frz {B:Nat→Option (List SV)}{R:Nat}{ws:List ByteArray}{i:Nat}{bad:Bool} (h:B R=some (rdC ws i bad)):mapO (frz B 3) [.op R 0]=some [.pp [namesD ws,dI i,dB bad] 0]:=by
  have h1:frz B 3 (.op R 0)=some (.pp [namesD ws,dI i,dB bad] 0):=by
    show (match B R with | some cs=>(mapO (frz B 2) cs).map fun ds=>D.pp ds 0 | none=>none)=_
    rw[h];rfl
  simp[mapO,h1]
theorem l_peek {S:St}{R:Nat}{ws:List ByteArray}{i:Nat}{bad:Bool} (h:S.B R=some (rdC ws i bad)) (hl:ws.length≤1048576) (hi:i≤1048577):LCall Tryz.prog 196 [.op R 0] S (.d (dS (wd ws i))) S :=
  LCall.ofP (p_peek ws i bad hl hi) (rd_frz h)
set_option maxHeartbeats 2000000 in
theorem l_next (S0:St) (R:Nat) (ws:List ByteArray) (i:Nat) (bad:Bool) (hR:R<S0.nx) (h:S0.B R=some (rdC ws i bad)) (hl:ws.length≤1048576) (hi:i≤1048576) :
    ∃ r S',LCall Tryz.prog 192 [.op R 0] S0 r S'∧(r=.d (dS (wd ws i))∧Got S0 S' R (rdC ws (i+1) bad) []):=by
  have w:=wrap64 (n:=(i:Int)+1) (by omega) (by omega)
  refine LCall.ex_ (md:=[]) Tryz.func192 rfl (by kernel_rfl) (by kernel_rfl) (n:=15) Tryz.ntmps192 (by simp) (by decide) rfl ?_
  simp[h,w]
  refine CallT.l (l_peek (ws:=ws) (i:=i) (bad:=bad) (by simp[h,w]) hl (by omega)) rfl ?_
  simp[h,w]
  exact⟨rfl,rfl,rfl,(by first | (simp;done)|(simp;omega)),by simp,fun x h1 h2=>by simp[h2],fun x h1=>rfl, .nil⟩
set_option maxHeartbeats 2000000 in
theorem l_must (S0:St) (R:Nat) (ws:List ByteArray) (i:Nat) (bad:Bool) (s:ByteArray) (hR:R<S0.nx) (h:S0.B R=some (rdC ws i bad)) (hl:ws.length≤1048576) (hi:i≤1048576) (hs:wd ws i=s) :
    ∃ r S',LCall Tryz.prog 195 [.op R 0, .d (dS s)] S0 r S'∧Got S0 S' R (rdC ws (i+1) bad) []:=by
  refine LCall.ex_ (md:=[]) Tryz.func195 rfl (by kernel_rfl) (by kernel_rfl) (n:=11) Tryz.ntmps195 (by simp) (by decide) rfl ?_
  simp[h]
  refine CallT.x (l_next _ R ws i bad (by simp;omega) (by simp[h]) hl hi) rfl (fun r1 S1 ⟨e1,hG1⟩=>?_)
  subst e1
  have S1_n:=hG1.n
  try simp[h] at S1_n
  have S1_gl:=hG1.gl
  try simp[h,S1_n] at S1_gl
  have S1_md:=hG1.md
  try simp[h,S1_n,S1_gl] at S1_md
  have S1_nx:=hG1.nx
  try simp[h,S1_n,S1_gl,S1_md] at S1_nx
  have S1_rd:=hG1.rd
  simp[h,S1_n,S1_gl,S1_md,S1_rd,hs]
  exact⟨rfl,rfl,rfl,by simp;omega,S1_rd,fun x h1 h2=>hG1.old x (by simp;omega) h2,fun x h1=>hG1.T x (by simp;omega), .nil⟩
set_option maxHeartbeats 2000000 in
theorem l_name (S0:St) (R:Nat) (ws:List ByteArray) (i:Nat) (bad:Bool) (hR:R<S0.nx) (h:S0.B R=some (rdC ws i bad)) (hl:ws.length≤1048576) (hi:i≤1048576) (hs:nameB (wd ws i)=true) (hz:(wd ws i).size≤1048576) :
    ∃ r S',LCall Tryz.prog 193 [.op R 0] S0 r S'∧(r=.d (dS (wd ws i))∧Got S0 S' R (rdC ws (i+1) bad) []):=by
  refine LCall.ex_ (md:=[]) Tryz.func193 rfl (by kernel_rfl) (by kernel_rfl) (n:=13) Tryz.ntmps193 (by simp) (by decide) rfl ?_
  simp[h]
  refine CallT.x (l_next _ R ws i bad (by simp;omega) (by simp[h]) hl hi) rfl (fun r1 S1 ⟨e1,hG1⟩=>?_)
  subst e1
  have S1_n:=hG1.n
  try simp[h] at S1_n
  have S1_gl:=hG1.gl
  try simp[h,S1_n] at S1_gl
  have S1_md:=hG1.md
  try simp[h,S1_n,S1_gl] at S1_md
  have S1_nx:=hG1.nx
  try simp[h,S1_n,S1_gl,S1_md] at S1_nx
  have S1_rd:=hG1.rd
  simp[h,S1_n,S1_gl,S1_md,S1_rd]
  repeat refine⟨DrawT.mk (by kernel_rfl),?_⟩
  refine CallT.p0 ((p_l1Name (wd ws i) (by omega))) (by first | rfl | (simp;done)|(simp[h,S1_n,S1_gl,S1_md,S1_rd];done)) (by first | rfl | (simp;done)|(simp;rfl)|(simp[h,S1_n,S1_gl,S1_md,S1_rd];done)) ?_
  simp[h,S1_n,S1_gl,S1_md,S1_rd]
  simp[h,S1_n,S1_gl,S1_md,S1_rd,hs]
  exact⟨rfl,rfl,rfl,by simp;omega,S1_rd,fun x h1 h2=>hG1.old x (by simp;omega) h2,fun x h1=>hG1.T x (by simp;omega), .nil⟩
theorem wd_lt {ws:List ByteArray}{i:Nat} (h:wd ws i≠⟨#[]⟩):i<ws.length:=by
  rcases Nat.lt_or_ge i ws.length with h1 | h1
  · exact h1
  · exact absurd (by unfold wd;rw[List.getD_eq_getElem?_getD,List.getElem?_eq_none h1];rfl) h
theorem nameB_size {s:ByteArray} (h:nameB s=true):1≤s.size∧s.size≤12:=by
  unfold nameB at h
  simp only[Bool.and_eq_true,decide_eq_true_eq] at h
  omega
theorem nameB_lt {ws:List ByteArray}{i:Nat} (h:nameB (wd ws i)=true):i<ws.length:=wd_lt fun e=>by
  rw[e] at h
  have:=(nameB_size h).1
  exact absurd this (by decide)
def pTyp0 (ws:List ByteArray) (rec:Nat→Option (Typ×Nat)) (d i:Nat):Option ((ByteArray×List Typ)×Nat) :=
  if wd ws i=⟨#[91]⟩∧0<d then (match rec (i+1) with | some (v,j)=>if wd ws j=⟨#[93]⟩ then some ((⟨#[]⟩,[v]),j+1) else none | none=>none)
  else if nameB (wd ws i)=true then some ((wd ws i,[]),i+1) else none
def pTyp1 (ws:List ByteArray):Option ((ByteArray×List Typ)×Nat)→Option (Typ×Nat)
  | some ((t,l),j)=>if wd ws j=⟨#[33]⟩ then some (.mk t l true,j+1) else some (.mk t l false,j)
  | none=>none
def pTyp (ws:List ByteArray):Nat→Nat→Option (Typ×Nat)
  | 0,_=>none
  | d+1,i=>pTyp1 ws (pTyp0 ws (pTyp ws d) d i)
theorem pTyp1_some {ws:List ByteArray}{o:Option ((ByteArray×List Typ)×Nat)}{v:Typ}{j:Nat} (h:pTyp1 ws o=some (v,j)):∃ t l q,o=some ((t,l),q)∧((wd ws q=⟨#[33]⟩∧v=.mk t l true∧j=q+1)∨(wd ws q≠⟨#[33]⟩∧v=.mk t l false∧j=q)):=by
  unfold pTyp1 at h
  split at h
  · rename_i t l q
    refine⟨t,l,q,rfl,?_⟩
    split at h
    · rename_i hw
      cases h
      exact .inl ⟨hw,rfl,rfl⟩
    · rename_i hw
      cases h
      exact .inr ⟨hw,rfl,rfl⟩
  · cases h
theorem pTyp0_some {ws:List ByteArray}{rec:Nat→Option (Typ×Nat)}{d i q:Nat}{t:ByteArray}{l:List Typ} (h:pTyp0 ws rec d i=some ((t,l),q)):(∃ v j,wd ws i=⟨#[91]⟩∧0<d∧rec (i+1)=some (v,j)∧wd ws j=⟨#[93]⟩∧t=⟨#[]⟩∧l=[v]∧q=j+1)∨(¬ wd ws i=⟨#[91]⟩∧nameB (wd ws i)=true∧t=wd ws i∧l=[]∧q=i+1):=by
  unfold pTyp0 at h
  split at h
  · rename_i h1
    split at h
    · rename_i v j hv
      split at h
      · rename_i hj
        cases h
        exact .inl ⟨v,j,h1.1,h1.2,hv,hj,rfl,rfl,rfl⟩
      · cases h
    · cases h
  · split at h
    · rename_i h2
      cases h
      refine .inr ⟨fun e=>?_,h2,rfl,rfl,rfl⟩
      rw[e] at h2
      exact absurd h2 (by decide)
    · cases h
theorem pTyp_le {ws:List ByteArray}:∀ {d i j:Nat}{v:Typ},pTyp ws d i=some (v,j)→i<j∧j≤ws.length
  | 0,_,_,_,h=>by cases h
  | d+1,i,j,v,h=>by
    obtain⟨t,l,q,h1,h2⟩:=pTyp1_some h
    have hq:i<q∧q≤ws.length:=by
      rcases pTyp0_some h1 with ⟨v1,j1,_,_,h3,h4,_,_,rfl⟩ | ⟨_,h3,_,_,rfl⟩
      · have:=pTyp_le h3
        have:=wd_lt (ws:=ws) (i:=j1) (by rw[h4];decide)
        omega
      · have:=nameB_lt h3
        omega
    rcases h2 with ⟨h2,_,rfl⟩ | ⟨_,_,rfl⟩
    · have:=wd_lt (ws:=ws) (i:=q) (by rw[h2];decide)
      omega
    · exact hq
theorem callt_gen {lo:Lo}{P:Program}{g:FuncId}{ss:List SV}{S:St}{K:Bool→SV→St→Prop}{Q:St→Prop} (hQ:Q S) (h:∀ S',Q S'→CallT lo P g ss S' K):CallT lo P g ss S K:=h S hQ
structure TypI (S0 S:St) (R u v:Nat) (ws:List ByteArray) (q:Nat) (t:ByteArray) (l:List Typ) (x:Ld) (md:List Nat):Prop where
  n:S.n=34
  gl:S.gl=S0.gl
  md:S.md=md
  nx:v+1≤S.nx
  rd:S.B R=some (rdC ws q false)
  res:S.B u=some [.d (dS ⟨#[]⟩), .fl [] 0, .d (dB false)]
  out:S.B v=some [.d (dS t),x.sv, .d (dB false)]
  sh:x.sh=skZ 3 l.length (typsZ l)
  at':At S (v+1) S.nx [x]
  old:∀ y,y<u→y≠R→S.B y=S0.B y
  T:∀ y,y<u→S.T y=S0.T y
set_option maxHeartbeats 8000000 in
theorem l_typ (ws:List ByteArray) (hl:ws.length≤1048576):∀ (d:Nat) (S0:St) (R i:Nat) (tt:Typ) (j:Nat),pTyp ws d i=some (tt,j)→R<S0.nx→S0.B R=some (rdC ws i false)→d≤1048576→
    ∃ r S',LCall Tryz.prog 221 [.op R 0, .d (dI d)] S0 r S'∧∃ X,r=.ag (svs X)∧shs X=tt.sz∧Got S0 S' R (rdC ws j false) X
  | 0,S0,R,i,tt,j,hp,hR,h,hd=>by cases hp
  | d+1,S0,R,i,tt,j,hp,hR,h,hd=>by
    have hj:=pTyp_le hp
    obtain⟨t,l,q,hp0,hp1⟩:=pTyp1_some hp
    have hq:q≤ws.length:=by rcases hp1 with ⟨_,_,rfl⟩ | ⟨_,_,rfl⟩<;>omega
    refine LCall.ex_ (md:=[20,1000020]) Tryz.func221 rfl (by kernel_rfl) (by kernel_rfl) (n:=34) Tryz.ntmps221 (by simp) (by decide) rfl ?_
    simp[h]
    generalize hv:S0.nx+1+1=v at *
    generalize hu:S0.nx=u at *
    have n1:¬ R=u:=by omega
    have n2:¬ R=v:=by omega
    have n4:¬ u=v:=by omega
    have n5:¬ v=u:=by omega
    refine CallT.l (l_peek (ws:=ws) (i:=i) (bad:=false) (by simp[h,n1,n2,n4,n5]) hl (by omega)) rfl ?_
    rcases pTyp0_some hp0 with ⟨v1,j1,e1,e2,e3,e4,rfl,rfl,hqe⟩ | ⟨e1,e2,rfl,rfl,hqe⟩
    case' inl =>
      have hj1:=pTyp_le e3
      have d1:((d+1:Nat):Int) - 1=(d:Int):=by omega
      have d2:(1:Int)<(d:Int)+1:=by omega
      have w1:=wrap64 (n:=(d:Int)) (by omega) (by omega)
      have hj2:=wd_lt (ws:=ws) (i:=j1) (by rw[e4];decide)
      simp[h,n1,n2,n4,n5,e1,d1,d2,w1]
      refine CallT.x (l_next _ R ws i false (by simp;omega) (by simp[h,n1,n2,n4,n5,e1,d1,d2,w1]) hl (by omega)) rfl (fun r1 S1 h1=>?_)
      obtain⟨q1,hG1⟩:=h1
      subst q1
      have S1_n:=hG1.n
      try simp[h,n1,n2,n4,n5,e1,d1,d2,w1] at S1_n
      have S1_gl:=hG1.gl
      try simp[h,n1,n2,n4,n5,e1,d1,d2,w1,S1_n] at S1_gl
      have S1_md:=hG1.md
      try simp[h,n1,n2,n4,n5,e1,d1,d2,w1,S1_n,S1_gl] at S1_md
      have S1_nx:=hG1.nx
      try simp[h,n1,n2,n4,n5,e1,d1,d2,w1,S1_n,S1_gl,S1_md] at S1_nx
      have S1_rd:=hG1.rd
      simp[h,n1,n2,n4,n5,e1,d1,d2,w1,S1_n,S1_gl,S1_md,S1_rd]
      refine CallT.x (l_typ ws hl d _ R (i+1) v1 j1 e3 (by simp;omega) (by simp[h,n1,n2,n4,n5,e1,d1,d2,w1,S1_n,S1_gl,S1_md,S1_rd]) (by omega)) rfl (fun r2 S2 h2=>?_)
      obtain⟨X,q2,hX,hG2⟩:=h2
      subst q2
      have S2_n:=hG2.n
      try simp[h,n1,n2,n4,n5,e1,d1,d2,w1,S1_n,S1_gl,S1_md,S1_rd] at S2_n
      have S2_gl:=hG2.gl
      try simp[h,n1,n2,n4,n5,e1,d1,d2,w1,S1_n,S1_gl,S1_md,S1_rd,S2_n] at S2_gl
      have S2_md:=hG2.md
      try simp[h,n1,n2,n4,n5,e1,d1,d2,w1,S1_n,S1_gl,S1_md,S1_rd,S2_n,S2_gl] at S2_md
      have S2_nx:=hG2.nx
      try simp[h,n1,n2,n4,n5,e1,d1,d2,w1,S1_n,S1_gl,S1_md,S1_rd,S2_n,S2_gl,S2_md] at S2_nx
      have S2_rd:=hG2.rd
      have hv2:=hG2.old v (by simp;omega) (by omega)
      have hv1:=hG1.old v (by simp;omega) (by omega)
      have hu2:=hG2.old u (by simp;omega) (by omega)
      have hu1:=hG1.old u (by simp;omega) (by omega)
      simp[n4,n5] at hv1 hv2 hu1 hu2
      rw[hv1] at hv2
      rw[hu1] at hu2
      have hXl:X.length=3:=by rw[← shs_len,hX];simp
      have hXl2:(svs X).length=3:=by simp[hXl]
      have m1:∀ a,¬ v=S1.nx+a:=fun a=>by omega
      have m2:∀ a,¬ u=S1.nx+a:=fun a=>by omega
      have m3:∀ a,¬ S1.nx+a=v:=fun a=>by omega
      have m4:∀ a,¬ S1.nx+a=u:=fun a=>by omega
      have m5:∀ a,¬ R=S1.nx+a:=fun a=>by omega
      simp[h,n1,n2,n4,n5,e1,d1,d2,w1,S1_n,S1_gl,S1_md,S1_rd,S2_n,S2_gl,S2_md,S2_rd,hv2,hu2,hXl2,m1,m2,m3,m4,m5]
      refine CallT.x (l_must _ R ws j1 false ⟨#[93]⟩ (by simp;omega) (by simp[h,n1,n2,n4,n5,e1,d1,d2,w1,S1_n,S1_gl,S1_md,S1_rd,S2_n,S2_gl,S2_md,S2_rd,hv2,hu2,hXl2,m1,m2,m3,m4,m5]) hl (by omega) e4) rfl (fun r3 S3 hG3=>?_)
      have S3_n:=hG3.n
      try simp[h,n1,n2,n4,n5,e1,d1,d2,w1,S1_n,S1_gl,S1_md,S1_rd,S2_n,S2_gl,S2_md,S2_rd,hv2,hu2,hXl2,m1,m2,m3,m4,m5] at S3_n
      have S3_gl:=hG3.gl
      try simp[h,n1,n2,n4,n5,e1,d1,d2,w1,S1_n,S1_gl,S1_md,S1_rd,S2_n,S2_gl,S2_md,S2_rd,hv2,hu2,hXl2,m1,m2,m3,m4,m5,S3_n] at S3_gl
      have S3_md:=hG3.md
      try simp[h,n1,n2,n4,n5,e1,d1,d2,w1,S1_n,S1_gl,S1_md,S1_rd,S2_n,S2_gl,S2_md,S2_rd,hv2,hu2,hXl2,m1,m2,m3,m4,m5,S3_n,S3_gl] at S3_md
      have S3_nx:=hG3.nx
      try simp[h,n1,n2,n4,n5,e1,d1,d2,w1,S1_n,S1_gl,S1_md,S1_rd,S2_n,S2_gl,S2_md,S2_rd,hv2,hu2,hXl2,m1,m2,m3,m4,m5,S3_n,S3_gl,S3_md] at S3_nx
      have S3_rd:=hG3.rd
      have hv3:=hG3.old v (by simp;omega) (by omega)
      have hu3:=hG3.old u (by simp;omega) (by omega)
      have hb3:=hG3.old (S1.nx+4) (by simp;omega) (fun e=>m5 _ e.symm)
      simp[h,n1,n2,n4,n5,e1,d1,d2,w1,S1_n,S1_gl,S1_md,S1_rd,S2_n,S2_gl,S2_md,S2_rd,hv2,hu2,hXl2,m1,m2,m3,m4,m5,S3_n,S3_gl,S3_md,S3_rd] at hv3 hu3 hb3
      simp[h,n1,n2,n4,n5,e1,d1,d2,w1,S1_n,S1_gl,S1_md,S1_rd,S2_n,S2_gl,S2_md,S2_rd,hv2,hu2,hXl2,m1,m2,m3,m4,m5,S3_n,S3_gl,S3_md,S3_rd]
      refine callt_gen (Q:=fun S=>TypI S0 S R u v ws q ⟨#[]⟩ [v1] (.row (some 3) (S1.nx+4) 1 X) [20,1000020]) ⟨?_,?_,?_,?_,?_,?_,?_,?_,?_,?_,?_⟩ (fun S hI=>?_)
      · simp[h,n1,n2,n4,n5,e1,d1,d2,w1,S1_n,S1_gl,S1_md,S1_rd,S2_n,S2_gl,S2_md,S2_rd,hv2,hu2,hXl2,m1,m2,m3,m4,m5,S3_n,S3_gl,S3_md,S3_rd]
      · simp[h,n1,n2,n4,n5,e1,d1,d2,w1,S1_n,S1_gl,S1_md,S1_rd,S2_n,S2_gl,S2_md,S2_rd,hv2,hu2,hXl2,m1,m2,m3,m4,m5,S3_n,S3_gl,S3_md,S3_rd]
      · simp[h,n1,n2,n4,n5,e1,d1,d2,w1,S1_n,S1_gl,S1_md,S1_rd,S2_n,S2_gl,S2_md,S2_rd,hv2,hu2,hXl2,m1,m2,m3,m4,m5,S3_n,S3_gl,S3_md,S3_rd]
      · simp;omega
      · rw[hqe];simp[h,n1,n2,n4,n5,e1,d1,d2,w1,S1_n,S1_gl,S1_md,S1_rd,S2_n,S2_gl,S2_md,S2_rd,hv2,hu2,hXl2,m1,m2,m3,m4,m5,S3_n,S3_gl,S3_md,S3_rd]
      · simp[h,n1,n2,n4,n5,e1,d1,d2,w1,S1_n,S1_gl,S1_md,S1_rd,S2_n,S2_gl,S2_md,S2_rd,hv2,hu2,hXl2,m1,m2,m3,m4,m5,S3_n,S3_gl,S3_md,S3_rd,hu3]
      · simp[h,n1,n2,n4,n5,e1,d1,d2,w1,S1_n,S1_gl,S1_md,S1_rd,S2_n,S2_gl,S2_md,S2_rd,hv2,hu2,hXl2,m1,m2,m3,m4,m5,S3_n,S3_gl,S3_md,S3_rd,hv3]
      · exact row_sh (by rw[hX];simp[typsZ]) (by omega)
      · have hn:=hG2.new
        simp at hn
        refine .row (by simpa using hb3) (by omega) (by simp;omega) ((hn.keep fun b k1 k2=>?_).le (by omega) (by simp;omega)) (fun p hp=>by have:=hn.rng p hp;omega)
        have a3:=hG3.old b (by simp;omega) (by omega)
        have y2:¬ b=v:=by omega
        have y3:¬ b=S1.nx+4:=by omega
        simp[y2,y3] at a3
        exact a3
      · intro y k1 k2
        have a3:=hG3.old y (by simp;omega) k2
        have a2:=hG2.old y (by simp;omega) k2
        have a1:=hG1.old y (by simp;omega) k2
        have y1:¬ y=u:=by omega
        have y2:¬ y=v:=by omega
        have y3:¬ y=S1.nx+4:=by omega
        simp[y1,y2,y3] at a1 a2 a3
        exact a3.trans (a2.trans a1)
      · intro y k1
        have a3:=hG3.T y (by simp;omega)
        have a2:=hG2.T y (by simp;omega)
        have a1:=hG1.T y (by simp;omega)
        simp at a1 a2 a3
        exact a3.trans (a2.trans a1)
      generalize S3.nx=base
      generalize Ld.row (some 3) (S1.nx+4) 1 X=x at hI
    case' inr =>
      simp[h,n1,n2,n4,n5,e1]
      refine CallT.x (l_name _ R ws i false (by simp;omega) (by simp[h,n1,n2,n4,n5,e1]) hl (by omega) e2 (by have:=nameB_size e2;omega)) rfl (fun r1 S1 h1=>?_)
      obtain⟨q1,hG1⟩:=h1
      subst q1
      have S1_n:=hG1.n
      try simp[h,n1,n2,n4,n5,e1] at S1_n
      have S1_gl:=hG1.gl
      try simp[h,n1,n2,n4,n5,e1,S1_n] at S1_gl
      have S1_md:=hG1.md
      try simp[h,n1,n2,n4,n5,e1,S1_n,S1_gl] at S1_md
      have S1_nx:=hG1.nx
      try simp[h,n1,n2,n4,n5,e1,S1_n,S1_gl,S1_md] at S1_nx
      have S1_rd:=hG1.rd
      have hv1:=hG1.old v (by simp;omega) (by omega)
      have hu1:=hG1.old u (by simp;omega) (by omega)
      simp[n4,n5] at hv1 hu1
      simp[h,n1,n2,n4,n5,e1,S1_n,S1_gl,S1_md,S1_rd,hv1,hu1]
      refine callt_gen (Q:=fun S=>TypI S0 S R u v ws q (wd ws i) [] .nil [20,1000020]) ⟨?_,?_,?_,?_,?_,?_,?_,?_,?_,?_,?_⟩ (fun S hI=>?_)
      · simp[h,n1,n2,n4,n5,e1,S1_n,S1_gl,S1_md,S1_rd,hv1,hu1]
      · simp[h,n1,n2,n4,n5,e1,S1_n,S1_gl,S1_md,S1_rd,hv1,hu1]
      · simp[h,n1,n2,n4,n5,e1,S1_n,S1_gl,S1_md,S1_rd,hv1,hu1]
      · simp;omega
      · rw[hqe];simp[h,n1,n2,n4,n5,e1,S1_n,S1_gl,S1_md,S1_rd,hv1,hu1]
      · simp[h,n1,n2,n4,n5,e1,S1_n,S1_gl,S1_md,S1_rd,hv1,hu1]
      · simp[h,n1,n2,n4,n5,e1,S1_n,S1_gl,S1_md,S1_rd,hv1,hu1]
      · simp[Ld.sh]
      · exact .cons_nil .nil
      · intro y k1 k2
        have a1:=hG1.old y (by simp;omega) k2
        have y1:¬ y=u:=by omega
        have y2:¬ y=v:=by omega
        simp[y1,y2] at a1 ⊢
        exact a1
      · intro y k1
        have a1:=hG1.T y (by simp;omega)
        simp at a1 ⊢
        exact a1
      generalize S1.nx=base
      generalize Ld.nil=x at hI
    all_goals
      obtain⟨I1,I2,I3,I4,I5,I6,I7,I8,I9,I10,I11⟩:=hI
      refine CallT.l (l_peek I5 hl (by omega)) rfl ?_
      obtain⟨z1,z2,z3⟩:=z_one I8
      rcases hp1 with ⟨wq,rfl,rfl⟩ | ⟨wq,rfl,rfl⟩
      · have wq':=wq
        simp[h,n1,n2,n4,n5,I1,I2,I3,I5,I6,I7,z1,z2,z3,wq]
        refine CallT.x (l_next _ R ws q false (by simp;omega) (by simp[h,n1,n2,n4,n5,I1,I2,I3,I5,I6,I7,z1,z2,z3,wq]) hl (by omega)) rfl (fun r4 S4 h4=>?_)
        obtain⟨q4,hG4⟩:=h4
        subst q4
        have S4_n:=hG4.n
        try simp[h,n1,n2,n4,n5,I1,I2,I3,I5,I6,I7,z1,z2,z3,wq] at S4_n
        have S4_gl:=hG4.gl
        try simp[h,n1,n2,n4,n5,I1,I2,I3,I5,I6,I7,z1,z2,z3,wq,S4_n] at S4_gl
        have S4_md:=hG4.md
        try simp[h,n1,n2,n4,n5,I1,I2,I3,I5,I6,I7,z1,z2,z3,wq,S4_n,S4_gl] at S4_md
        have S4_nx:=hG4.nx
        try simp[h,n1,n2,n4,n5,I1,I2,I3,I5,I6,I7,z1,z2,z3,wq,S4_n,S4_gl,S4_md] at S4_nx
        have S4_rd:=hG4.rd
        have hv4:=hG4.old v (by simp;omega) (by omega)
        have hu4:=hG4.old u (by simp;omega) (by omega)
        simp[h,n1,n2,n4,n5,I1,I2,I3,I5,I6,I7,z1,z2,z3,wq,S4_n,S4_gl,S4_md,S4_rd] at hv4 hu4
        simp[h,n1,n2,n4,n5,I1,I2,I3,I5,I6,I7,z1,z2,z3,wq,S4_n,S4_gl,S4_md,S4_rd,hv4,hu4]
        refine⟨[.d (.string _),x, .d (.bool true)],rfl,by simp[shs,Ld.sh,Typ.sz,I8],rfl,rfl,rfl,by simp;omega,?_,?_,?_,?_⟩
        · simp[n1,n2];exact S4_rd
        · intro y k1 k2
          have a4:=hG4.old y (by simp;omega) k2
          have y1:¬ y=u:=by omega
          have y2:¬ y=v:=by omega
          simp[y1,y2] at a4 ⊢
          exact a4.trans (I10 y (by omega) k2)
        · intro y k1
          have a4:=hG4.T y (by simp;omega)
          simp at a4 ⊢
          exact a4.trans (I11 y (by omega))
        · refine .cons_d (.app (a:=[x]) (mid:=S.nx) ((I9.keep fun b k1 k2=>?_).le (by omega) (Nat.le_refl _)) (.cons_d .nil) (by omega) (by first | (simp;done)|(simp;omega)))
          have a4:=hG4.old b (by simp;omega) (by omega)
          have y1:¬ b=u:=by omega
          have y2:¬ b=v:=by omega
          simp[y1,y2] at a4 ⊢
          exact a4
      · have wq':=wq
        simp[h,n1,n2,n4,n5,I1,I2,I3,I5,I6,I7,z1,z2,z3,wq]
        refine⟨[.d (.string _),x, .d (.bool false)],rfl,by simp[shs,Ld.sh,Typ.sz,I8],rfl,rfl,rfl,by simp;omega,?_,?_,?_,?_⟩
        · simp[n1,n2];exact I5
        · intro y k1 k2
          have y1:¬ y=u:=by omega
          simp[y1]
          exact I10 y (by omega) k2
        · intro y k1
          exact I11 y (by omega)
        · refine .cons_d (.app (a:=[x]) (mid:=S.nx) ((I9.keep fun b k1 k2=>?_).le (by omega) (Nat.le_refl _)) (.cons_d .nil) (by omega) (by first | (simp;done)|(simp;omega)))
          have y1:¬ b=u:=by omega
          simp[y1]
def wordVB (s:ByteArray):Bool:=nameB s&&decide (¬ s=⟨#[116,114,117,101]⟩∧¬ s=⟨#[102,97,108,115,101]⟩∧¬ s=⟨#[110,117,108,108]⟩)
theorem nameB_first {s:ByteArray} (h:nameB s=true):letterB (byteI s 0)=true:=by
  have hs:=(nameB_size h).1
  unfold nameB at h
  simp only[Bool.and_eq_true] at h
  cases hl:letterB (byteI s 0) with
  | true=>rfl
  | false =>
    have:nameP s 0=false:=by simp[nameP,hl]
    have:=allTo_false (show 0<s.size by omega) this
    rw[this] at h;simp at h
theorem letter_not {n:Int} (h:letterB n=true):¬ n=34∧¬ n=45∧¬ n=36∧¬ n=91∧¬ n=123∧figureB n=false:=by
  unfold letterB at h
  unfold figureB
  simp only[Bool.or_eq_true,Bool.and_eq_true,decide_eq_true_eq] at h
  refine⟨by omega,by omega,by omega,by omega,by omega,?_⟩
  simp only[Bool.and_eq_false_iff,decide_eq_false_iff_not]
  omega
set_option maxHeartbeats 4000000 in
theorem l_valueW (S0:St) (R:Nat) (ws:List ByteArray) (i d:Nat) (hR:R<S0.nx) (h:S0.B R=some (rdC ws i false)) (hl:ws.length≤1048576) (hi:i≤1048576) (hd:1≤d) (hd2:d≤1048576) (hs:wordVB (wd ws i)=true) :
    ∃ r S',LCall Tryz.prog 222 [.op R 0, .d (dI d)] S0 r S'∧∃ X,r=.ag (svs X)∧shs X=(Val.mk 7 0 (wd ws i) [] []).sz∧Got S0 S' R (rdC ws (i+1) false) X:=by
  unfold wordVB at hs
  simp only[Bool.and_eq_true,decide_eq_true_eq] at hs
  obtain⟨hs0,hs1,hs2,hs3⟩:=hs
  obtain⟨b1,b2,b3,b4,b5,b6⟩:=letter_not (nameB_first hs0)
  have hsz:=nameB_size hs0
  have c0:¬ wd ws i=⟨#[]⟩:=fun e=>by rw[e] at hsz;exact absurd hsz.1 (by decide)
  have c1:¬ wd ws i=⟨#[36]⟩:=fun e=>by rw[e] at b3;exact absurd rfl b3
  have c2:¬ wd ws i=⟨#[91]⟩:=fun e=>by rw[e] at b4;exact absurd rfl b4
  have c3:¬ wd ws i=⟨#[123]⟩:=fun e=>by rw[e] at b5;exact absurd rfl b5
  have hdd:¬ (d:Int)<1:=by omega
  have hs4:0<(wd ws i).size:=by omega
  refine LCall.ex_ (md:=[]) Tryz.func222 rfl (by kernel_rfl) (by kernel_rfl) (n:=91) Tryz.ntmps222 (by simp) (by decide) rfl ?_
  simp[h]
  generalize hu:S0.nx=u at *
  have n1:¬ R=u:=by omega
  have n2:¬ u=R:=by omega
  refine CallT.x (l_next _ R ws i false (by simp;omega) (by simp[h,n1,n2,hs1,hs2,hs3,b1,b2,b6,c0,c1,c2,c3,hdd,hs4]) hl (by omega)) rfl (fun r1 S1 h1=>?_)
  obtain⟨q1,hG1⟩:=h1
  subst q1
  have S1_n:=hG1.n
  try simp[h,n1,n2,hs1,hs2,hs3,b1,b2,b6,c0,c1,c2,c3,hdd,hs4] at S1_n
  have S1_gl:=hG1.gl
  try simp[h,n1,n2,hs1,hs2,hs3,b1,b2,b6,c0,c1,c2,c3,hdd,hs4,S1_n] at S1_gl
  have S1_md:=hG1.md
  try simp[h,n1,n2,hs1,hs2,hs3,b1,b2,b6,c0,c1,c2,c3,hdd,hs4,S1_n,S1_gl] at S1_md
  have S1_nx:=hG1.nx
  try simp[h,n1,n2,hs1,hs2,hs3,b1,b2,b6,c0,c1,c2,c3,hdd,hs4,S1_n,S1_gl,S1_md] at S1_nx
  have S1_rd:=hG1.rd
  have hu1:=hG1.old u (by simp;omega) (by omega)
  simp at hu1
  simp[h,n1,n2,hs1,hs2,hs3,b1,b2,b6,c0,c1,c2,c3,hdd,hs4,S1_n,S1_gl,S1_md,S1_rd,hu1]
  repeat refine⟨DrawT.mk (by kernel_rfl),?_⟩
  refine CallT.p0 ((p_l1Figure _)) (by first | rfl | (simp;done)|(simp[h,n1,n2,hs1,hs2,hs3,b1,b2,b6,c0,c1,c2,c3,hdd,hs4,S1_n,S1_gl,S1_md,S1_rd,hu1];done)) (by first | rfl | (simp;done)|(simp;rfl)|(simp[h,n1,n2,hs1,hs2,hs3,b1,b2,b6,c0,c1,c2,c3,hdd,hs4,S1_n,S1_gl,S1_md,S1_rd,hu1];done)) ?_
  simp[h,n1,n2,hs1,hs2,hs3,b1,b2,b6,c0,c1,c2,c3,hdd,hs4,S1_n,S1_gl,S1_md,S1_rd,hu1]
  repeat refine⟨DrawT.mk (by kernel_rfl),?_⟩
  refine CallT.p0 ((p_l1Name (wd ws i) (by omega))) (by first | rfl | (simp;done)|(simp[h,n1,n2,hs1,hs2,hs3,b1,b2,b6,c0,c1,c2,c3,hdd,hs4,S1_n,S1_gl,S1_md,S1_rd,hu1];done)) (by first | rfl | (simp;done)|(simp;rfl)|(simp[h,n1,n2,hs1,hs2,hs3,b1,b2,b6,c0,c1,c2,c3,hdd,hs4,S1_n,S1_gl,S1_md,S1_rd,hu1];done)) ?_
  simp[h,n1,n2,hs1,hs2,hs3,b1,b2,b6,c0,c1,c2,c3,hdd,hs4,S1_n,S1_gl,S1_md,S1_rd,hu1]
  simp[h,n1,n2,hs1,hs2,hs3,b1,b2,b6,c0,c1,c2,c3,hdd,hs4,S1_n,S1_gl,S1_md,S1_rd,hu1,hs0]
  refine⟨[.d (.int .i64 7), .d (.int .i64 0), .d (.string (wd ws i)), .nil, .nil],rfl,by simp[shs,Ld.sh,Val.sz,skT],rfl,rfl,rfl,by simp;omega,?_,?_,?_,?_⟩
  · simp[n1];exact S1_rd
  · intro y k1 k2
    have a1:=hG1.old y (by simp;omega) k2
    have y1:¬ y=u:=by omega
    simp[y1] at a1 ⊢
    exact a1
  · intro y k1
    have a1:=hG1.T y (by simp;omega)
    simp at a1 ⊢
    exact a1
  · exact .cons_d (.cons_d (.cons_d (.cons_nil (.cons_nil .nil))))
end Go.Proofs.YtlmpjblmmpddeaaGreat
namespace Go.Proofs.YtlmpjblmmpddeaaGreat
open Go.Sh
abbrev noVal:Val:=.mk 0 0 ⟨#[]⟩ [] []
def pArg (ws:List ByteArray) (i:Nat):Option (Arg×Nat) :=
  if nameB (wd ws i)=true∧wd ws (i+1)=⟨#[58]⟩ then match pTyp ws 3 (i+2) with
    | some (t,j)=>if wd ws j=⟨#[61]⟩ then (if wordVB (wd ws (j+1))=true then some (⟨wd ws i,t,true, .mk 7 0 (wd ws (j+1)) [] []⟩,j+2) else none) else some (⟨wd ws i,t,false,noVal⟩,j)
    | none=>none
  else none
theorem pArg_some {ws:List ByteArray}{i k:Nat}{a:Arg} (h:pArg ws i=some (a,k)):nameB (wd ws i)=true∧wd ws (i+1)=⟨#[58]⟩∧∃ t j,pTyp ws 3 (i+2)=some (t,j) ∧
    ((wd ws j=⟨#[61]⟩∧wordVB (wd ws (j+1))=true∧a=⟨wd ws i,t,true, .mk 7 0 (wd ws (j+1)) [] []⟩∧k=j+2)∨(¬ wd ws j=⟨#[61]⟩∧a=⟨wd ws i,t,false,noVal⟩∧k=j)):=by
  unfold pArg at h
  split at h
  · rename_i h0
    refine⟨h0.1,h0.2,?_⟩
    split at h
    · rename_i t j ht
      refine⟨t,j,ht,?_⟩
      split at h
      · rename_i h1
        split at h
        · rename_i h2
          cases h;exact .inl ⟨h1,h2,rfl,rfl⟩
        · cases h
      · rename_i h1
        cases h;exact .inr ⟨h1,rfl,rfl⟩
    · cases h
  · cases h
theorem wordVB_name {s:ByteArray} (h:wordVB s=true):nameB s=true:=by
  unfold wordVB at h
  simp only[Bool.and_eq_true] at h
  exact h.1
theorem pArg_le {ws:List ByteArray}{i k:Nat}{a:Arg} (h:pArg ws i=some (a,k)):i<k∧k≤ws.length:=by
  obtain⟨_,_,t,j,h1,h2⟩:=pArg_some h
  have:=pTyp_le h1
  rcases h2 with ⟨_,h3,_,rfl⟩ | ⟨_,_,rfl⟩
  · have:=nameB_lt (wordVB_name h3)
    omega
  · omega
def pArgs (ws:List ByteArray):Nat→Nat→Option (List Arg×Nat)
  | 0,_=>none
  | f+1,i=>if wd ws i=⟨#[41]⟩ then some ([],i) else match pArg ws i with
    | some (a,j)=>match pArgs ws f j with
      | some (l,k)=>some (a::l,k)
      | none=>none
    | none=>none
theorem pArgs_some {ws:List ByteArray}{f i k:Nat}{l:List Arg} (h:pArgs ws (f+1) i=some (l,k)):(wd ws i=⟨#[41]⟩∧l=[]∧k=i)∨(¬ wd ws i=⟨#[41]⟩∧∃ a j r,pArg ws i=some (a,j)∧pArgs ws f j=some (r,k)∧l=a::r):=by
  unfold pArgs at h
  split at h
  · rename_i h0;cases h;exact .inl ⟨h0,rfl,rfl⟩
  · rename_i h0
    split at h
    · rename_i a j ha
      split at h
      · rename_i r k' hr
        cases h;exact .inr ⟨h0,a,j,r,ha,hr,rfl⟩
      · cases h
    · cases h
theorem pArgs_le {ws:List ByteArray}:∀ {f i k:Nat}{l:List Arg},pArgs ws f i=some (l,k)→i≤k∧k<ws.length∧wd ws k=⟨#[41]⟩
  | 0,_,_,_,h=>by cases h
  | f+1,i,k,l,h=>by
    rcases pArgs_some h with ⟨h1,_,rfl⟩ | ⟨_,a,j,r,h1,h2,_⟩
    · exact⟨Nat.le_refl _,wd_lt (by rw[h1];decide),h1⟩
    · have:=pArg_le h1
      have:=pArgs_le h2
      exact⟨by omega,this.2⟩
def pBra (ws:List ByteArray) (i:Nat):Option (List Arg×Nat) :=
  if wd ws i=⟨#[40]⟩ then match pArgs ws ws.length (i+1) with
    | some (a::l,j)=>some (a::l,j+1)
    | _=>none
  else some ([],i)
theorem pBra_some {ws:List ByteArray}{i k:Nat}{l:List Arg} (h:pBra ws i=some (l,k)):(wd ws i=⟨#[40]⟩∧l≠[]∧∃ j,pArgs ws ws.length (i+1)=some (l,j)∧k=j+1)∨(¬ wd ws i=⟨#[40]⟩∧l=[]∧k=i):=by
  unfold pBra at h
  split at h
  · rename_i h0
    split at h
    · rename_i a l' j hj
      cases h;exact .inl ⟨h0,by simp,j,hj,rfl⟩
    · cases h
  · rename_i h0
    cases h;exact .inr ⟨h0,rfl,rfl⟩
def pFld (ws:List ByteArray) (i:Nat):Option (Fld×Nat) :=
  if nameB (wd ws i)=true then match pBra ws (i+1) with
    | some (l,j)=>if wd ws j=⟨#[58]⟩ then match pTyp ws 3 (j+1) with
      | some (t,k)=>some (⟨wd ws i,l,t⟩,k)
      | none=>none
      else none
    | none=>none
  else none
theorem pFld_some {ws:List ByteArray}{i k:Nat}{a:Fld} (h:pFld ws i=some (a,k)):nameB (wd ws i)=true∧∃ l j t,pBra ws (i+1)=some (l,j)∧wd ws j=⟨#[58]⟩∧pTyp ws 3 (j+1)=some (t,k)∧a=⟨wd ws i,l,t⟩:=by
  unfold pFld at h
  split at h
  · rename_i h0
    refine⟨h0,?_⟩
    split at h
    · rename_i l j hl
      split at h
      · rename_i h1
        split at h
        · rename_i t k' ht
          cases h;exact⟨l,j,t,hl,h1,ht,rfl⟩
        · cases h
      · cases h
    · cases h
  · cases h
theorem pFld_le {ws:List ByteArray}{i k:Nat}{a:Fld} (h:pFld ws i=some (a,k)):i<k∧k≤ws.length:=by
  obtain⟨_,l,j,t,h1,_,h2,_⟩:=pFld_some h
  have:=pTyp_le h2
  rcases pBra_some h1 with ⟨_,_,j',h3,rfl⟩ | ⟨_,_,rfl⟩
  · have:=pArgs_le h3;omega
  · omega
def pFlds (ws:List ByteArray):Nat→Nat→Option (List Fld×Nat)
  | 0,_=>none
  | f+1,i=>if wd ws i=⟨#[125]⟩ then some ([],i) else match pFld ws i with
    | some (a,j)=>match pFlds ws f j with
      | some (l,k)=>some (a::l,k)
      | none=>none
    | none=>none
theorem pFlds_some {ws:List ByteArray}{f i k:Nat}{l:List Fld} (h:pFlds ws (f+1) i=some (l,k)):(wd ws i=⟨#[125]⟩∧l=[]∧k=i)∨(¬ wd ws i=⟨#[125]⟩∧∃ a j r,pFld ws i=some (a,j)∧pFlds ws f j=some (r,k)∧l=a::r):=by
  unfold pFlds at h
  split at h
  · rename_i h0;cases h;exact .inl ⟨h0,rfl,rfl⟩
  · rename_i h0
    split at h
    · rename_i a j ha
      split at h
      · rename_i r k' hr
        cases h;exact .inr ⟨h0,a,j,r,ha,hr,rfl⟩
      · cases h
    · cases h
theorem pFlds_le {ws:List ByteArray}:∀ {f i k:Nat}{l:List Fld},pFlds ws f i=some (l,k)→i≤k∧k<ws.length∧wd ws k=⟨#[125]⟩
  | 0,_,_,_,h=>by cases h
  | f+1,i,k,l,h=>by
    rcases pFlds_some h with ⟨h1,_,rfl⟩ | ⟨_,a,j,r,h1,h2,_⟩
    · exact⟨Nat.le_refl _,wd_lt (by rw[h1];decide),h1⟩
    · have:=pFld_le h1
      have:=pFlds_le h2
      exact⟨by omega,this.2⟩
def pWds (ws:List ByteArray):Nat→Nat→Option (List ByteArray×Nat)
  | 0,_=>none
  | f+1,i=>if wd ws i=⟨#[125]⟩ then some ([],i) else if nameB (wd ws i)=true then match pWds ws f (i+1) with
    | some (l,k)=>some (wd ws i::l,k)
    | none=>none
    else none
theorem pWds_some {ws:List ByteArray}{f i k:Nat}{l:List ByteArray} (h:pWds ws (f+1) i=some (l,k)):(wd ws i=⟨#[125]⟩∧l=[]∧k=i)∨(¬ wd ws i=⟨#[125]⟩∧nameB (wd ws i)=true∧∃ r,pWds ws f (i+1)=some (r,k)∧l=wd ws i::r):=by
  unfold pWds at h
  split at h
  · rename_i h0;cases h;exact .inl ⟨h0,rfl,rfl⟩
  · rename_i h0
    split at h
    · rename_i h1
      split at h
      · rename_i r k' hr
        cases h;exact .inr ⟨h0,h1,r,hr,rfl⟩
      · cases h
    · cases h
theorem pWds_le {ws:List ByteArray}:∀ {f i k:Nat}{l:List ByteArray},pWds ws f i=some (l,k)→i≤k∧k<ws.length∧wd ws k=⟨#[125]⟩
  | 0,_,_,_,h=>by cases h
  | f+1,i,k,l,h=>by
    rcases pWds_some h with ⟨h1,_,rfl⟩ | ⟨_,_,r,h2,_⟩
    · exact⟨Nat.le_refl _,wd_lt (by rw[h1];decide),h1⟩
    · have:=pWds_le h2
      exact⟨by omega,this.2⟩
def pAlts (ws:List ByteArray):Nat→Nat→Option (List ByteArray×Nat)
  | 0,_=>none
  | f+1,i=>if wd ws i=⟨#[124]⟩ then (if nameB (wd ws (i+1))=true then match pAlts ws f (i+2) with
    | some (l,k)=>some (wd ws (i+1)::l,k)
    | none=>none
    else none) else some ([],i)
theorem pAlts_some {ws:List ByteArray}{f i k:Nat}{l:List ByteArray} (h:pAlts ws (f+1) i=some (l,k)):(¬ wd ws i=⟨#[124]⟩∧l=[]∧k=i)∨(wd ws i=⟨#[124]⟩∧nameB (wd ws (i+1))=true∧∃ r,pAlts ws f (i+2)=some (r,k)∧l=wd ws (i+1)::r):=by
  unfold pAlts at h
  split at h
  · rename_i h0
    split at h
    · rename_i h1
      split at h
      · rename_i r k' hr
        cases h;exact .inr ⟨h0,h1,r,hr,rfl⟩
      · cases h
    · cases h
  · rename_i h0;cases h;exact .inl ⟨h0,rfl,rfl⟩
theorem pAlts_le {ws:List ByteArray}:∀ {f i k:Nat}{l:List ByteArray},i≤ws.length→pAlts ws f i=some (l,k)→i≤k∧k≤ws.length
  | 0,_,_,_,_,h=>by cases h
  | f+1,i,k,l,h0,h=>by
    rcases pAlts_some h with ⟨_,_,rfl⟩ | ⟨_,h1,r,h2,_⟩
    · exact⟨Nat.le_refl _,h0⟩
    · have h3:=nameB_lt h1
      have:=pAlts_le (by omega) h2
      exact⟨by omega,this.2⟩
abbrev typeS:ByteArray:=⟨#[116,121,112,101]⟩
abbrev inputS:ByteArray:=⟨#[105,110,112,117,116]⟩
abbrev enumS:ByteArray:=⟨#[101,110,117,109]⟩
abbrev unionS:ByteArray:=⟨#[117,110,105,111,110]⟩
def pBody (ws:List ByteArray) (i:Nat) (n:ByteArray):Option (Def×Nat) :=
  if wd ws i=typeS then (if wd ws (i+2)=⟨#[123]⟩ then (match pFlds ws ws.length (i+3) with | some (l,k)=>some (⟨n,1,l,[]⟩,k+1) | none=>none) else none)
  else if wd ws i=inputS then (if wd ws (i+2)=⟨#[123]⟩ then (match pFlds ws ws.length (i+3) with | some (l,k)=>some (⟨n,3,l,[]⟩,k+1) | none=>none) else none)
  else if wd ws i=enumS then (if wd ws (i+2)=⟨#[123]⟩ then (match pWds ws ws.length (i+3) with | some (l,k)=>some (⟨n,2,[],l⟩,k+1) | none=>none) else none)
  else if wd ws i=unionS then (if wd ws (i+2)=⟨#[61]⟩∧nameB (wd ws (i+3))=true then (match pAlts ws ws.length (i+4) with | some (l,k)=>some (⟨n,4,[],wd ws (i+3)::l⟩,k) | none=>none) else none)
  else none
theorem pBody_some {ws:List ByteArray}{i k:Nat}{n:ByteArray}{d:Def} (h:pBody ws i n=some (d,k)) :
    (wd ws i=typeS∧wd ws (i+2)=⟨#[123]⟩∧∃ l j,pFlds ws ws.length (i+3)=some (l,j)∧d=⟨n,1,l,[]⟩∧k=j+1) ∨
    (wd ws i=inputS∧wd ws (i+2)=⟨#[123]⟩∧∃ l j,pFlds ws ws.length (i+3)=some (l,j)∧d=⟨n,3,l,[]⟩∧k=j+1) ∨
    (wd ws i=enumS∧wd ws (i+2)=⟨#[123]⟩∧∃ l j,pWds ws ws.length (i+3)=some (l,j)∧d=⟨n,2,[],l⟩∧k=j+1) ∨
    (wd ws i=unionS∧wd ws (i+2)=⟨#[61]⟩∧nameB (wd ws (i+3))=true∧∃ l,pAlts ws ws.length (i+4)=some (l,k)∧d=⟨n,4,[],wd ws (i+3)::l⟩):=by
  unfold pBody at h
  split at h
  · rename_i h0
    split at h
    · rename_i h1
      split at h
      · rename_i l j hl;cases h;exact .inl ⟨h0,h1,l,j,hl,rfl,rfl⟩
      · cases h
    · cases h
  split at h
  · rename_i h0
    split at h
    · rename_i h1
      split at h
      · rename_i l j hl;cases h;exact .inr (.inl ⟨h0,h1,l,j,hl,rfl,rfl⟩)
      · cases h
    · cases h
  split at h
  · rename_i h0
    split at h
    · rename_i h1
      split at h
      · rename_i l j hl;cases h;exact .inr (.inr (.inl ⟨h0,h1,l,j,hl,rfl,rfl⟩))
      · cases h
    · cases h
  split at h
  · rename_i h0
    split at h
    · rename_i h1
      split at h
      · rename_i l j hl;cases h;exact .inr (.inr (.inr ⟨h0,h1.1,h1.2,l,hl,rfl⟩))
      · cases h
    · cases h
  · cases h
def pDef (ws:List ByteArray) (i:Nat):Option (Def×Nat):=if nameB (wd ws (i+1))=true then pBody ws i (wd ws (i+1)) else none
theorem pDef_some {ws:List ByteArray}{i k:Nat}{d:Def} (h:pDef ws i=some (d,k)):nameB (wd ws (i+1))=true∧pBody ws i (wd ws (i+1))=some (d,k):=by
  unfold pDef at h
  split at h
  · rename_i h0;exact⟨h0,h⟩
  · cases h
theorem pDef_le {ws:List ByteArray}{i k:Nat}{d:Def} (h:pDef ws i=some (d,k)):i<k∧k≤ws.length:=by
  obtain⟨_,h⟩:=pDef_some h
  rcases pBody_some h with ⟨_,_,l,j,h2,_,rfl⟩ | ⟨_,_,l,j,h2,_,rfl⟩ | ⟨_,_,l,j,h2,_,rfl⟩ | ⟨_,_,h1,l,h2,_⟩
  · have:=pFlds_le h2;omega
  · have:=pFlds_le h2;omega
  · have:=pWds_le h2;omega
  · have:=nameB_lt h1
    have:=pAlts_le (by omega) h2;omega
def pDefs (ws:List ByteArray):Nat→Nat→Option (List Def)
  | 0,_=>none
  | f+1,i=>if ws.length≤i then some [] else match pDef ws i with
    | some (d,j)=>match pDefs ws f j with
      | some l=>some (d::l)
      | none=>none
    | none=>none
theorem pDefs_some {ws:List ByteArray}{f i:Nat}{l:List Def} (h:pDefs ws (f+1) i=some l):(ws.length≤i∧l=[])∨(i<ws.length∧∃ d j r,pDef ws i=some (d,j)∧pDefs ws f j=some r∧l=d::r):=by
  unfold pDefs at h
  split at h
  · rename_i h0;cases h;exact .inl ⟨h0,rfl⟩
  · rename_i h0
    split at h
    · rename_i d j hd
      split at h
      · rename_i r hr
        cases h;exact .inr ⟨by omega,d,j,r,hd,hr,rfl⟩
      · cases h
    · cases h
theorem pArgs_len {ws:List ByteArray}:∀ {f i k:Nat}{l:List Arg},pArgs ws f i=some (l,k)→i+l.length≤k
  | 0,_,_,_,h=>by cases h
  | f+1,i,k,l,h=>by
    rcases pArgs_some h with ⟨_,rfl,rfl⟩ | ⟨_,a,j,r,h1,h2,rfl⟩
    · simp
    · have:=pArg_le h1
      have:=pArgs_len h2
      simp;omega
theorem pFlds_len {ws:List ByteArray}:∀ {f i k:Nat}{l:List Fld},pFlds ws f i=some (l,k)→i+l.length≤k
  | 0,_,_,_,h=>by cases h
  | f+1,i,k,l,h=>by
    rcases pFlds_some h with ⟨_,rfl,rfl⟩ | ⟨_,a,j,r,h1,h2,rfl⟩
    · simp
    · have:=pFld_le h1
      have:=pFlds_len h2
      simp;omega
theorem pWds_len {ws:List ByteArray}:∀ {f i k:Nat}{l:List ByteArray},pWds ws f i=some (l,k)→i+l.length≤k
  | 0,_,_,_,h=>by cases h
  | f+1,i,k,l,h=>by
    rcases pWds_some h with ⟨_,rfl,rfl⟩ | ⟨_,_,r,h2,rfl⟩
    · simp
    · have:=pWds_len h2
      simp;omega
theorem pAlts_len {ws:List ByteArray}:∀ {f i k:Nat}{l:List ByteArray},pAlts ws f i=some (l,k)→i+l.length≤k
  | 0,_,_,_,h=>by cases h
  | f+1,i,k,l,h=>by
    rcases pAlts_some h with ⟨_,rfl,rfl⟩ | ⟨_,_,r,h2,rfl⟩
    · simp
    · have:=pAlts_len h2
      simp;omega
theorem pDefs_len {ws:List ByteArray}:∀ {f i:Nat}{l:List Def},i≤ws.length→pDefs ws f i=some l→i+l.length≤ws.length
  | 0,_,_,_,h=>by cases h
  | f+1,i,l,h0,h=>by
    rcases pDefs_some h with ⟨_,rfl⟩ | ⟨_,d,j,r,h1,h2,rfl⟩
    · simp;omega
    · have:=pDef_le h1
      have:=pDefs_len (by omega) h2
      simp;omega
def litL:List UInt8:=[116,121,112,101,32,81,117,101,114,121,123,109,101,58,80,101,114,115,111,110,33,32,97,108,108,40,102,105,114,115,116,58,73,110,116,41,58,91,80,101,114,115,111,110,33,93,32,102,105,110,100,40,105,100,58,73,68,44,107,105,110,100,58,75,105,110,100,61,67,65,84,41,58,84,104,105,110,103,32,110,58,73,110,116,33,32,119,111,114,100,115,58,91,91,83,116,114,105,110,103,33,93,93,125,32,116,121,112,101,32,77,117,116,97,116,105,111,110,123,115,101,116,40,105,100,58,73,110,116,33,44,99,101,108,108,58,83,116,114,105,110,103,33,44,118,97,108,117,101,58,73,110,116,41,58,80,101,114,115,111,110,32,110,58,73,110,116,33,125,32,116,121,112,101,32,80,101,114,115,111,110,123,110,97,109,101,58,83,116,114,105,110,103,33,32,97,103,101,58,73,110,116,32,112,101,116,58,80,101,116,32,102,114,105,101,110,100,115,58,91,80,101,114,115,111,110,93,32,107,105,110,100,58,75,105,110,100,125,32,116,121,112,101,32,80,101,116,123,110,97,109,101,58,83,116,114,105,110,103,33,32,111,119,110,101,114,58,80,101,114,115,111,110,33,125,32,101,110,117,109,32,75,105,110,100,123,67,65,84,32,68,79,71,125,32,117,110,105,111,110,32,84,104,105,110,103,61,80,101,114,115,111,110,124,80,101,116,32,105,110,112,117,116,32,73,110,123,97,58,73,110,116,33,32,98,58,91,83,116,114,105,110,103,93,32,99,58,73,110,125]
def litW:List ByteArray:=[⟨#[116,121,112,101]⟩,⟨#[81,117,101,114,121]⟩,⟨#[123]⟩,⟨#[109,101]⟩,⟨#[58]⟩,⟨#[80,101,114,115,111,110]⟩,⟨#[33]⟩,⟨#[97,108,108]⟩,⟨#[40]⟩,⟨#[102,105,114,115,116]⟩,⟨#[58]⟩,⟨#[73,110,116]⟩,⟨#[41]⟩,⟨#[58]⟩,⟨#[91]⟩,⟨#[80,101,114,115,111,110]⟩,⟨#[33]⟩,⟨#[93]⟩,⟨#[102,105,110,100]⟩,⟨#[40]⟩,⟨#[105,100]⟩,⟨#[58]⟩,⟨#[73,68]⟩,⟨#[107,105,110,100]⟩,⟨#[58]⟩,⟨#[75,105,110,100]⟩,⟨#[61]⟩,⟨#[67,65,84]⟩,⟨#[41]⟩,⟨#[58]⟩,⟨#[84,104,105,110,103]⟩,⟨#[110]⟩,⟨#[58]⟩,⟨#[73,110,116]⟩,⟨#[33]⟩,⟨#[119,111,114,100,115]⟩,⟨#[58]⟩,⟨#[91]⟩,⟨#[91]⟩,⟨#[83,116,114,105,110,103]⟩,⟨#[33]⟩,⟨#[93]⟩,⟨#[93]⟩,⟨#[125]⟩,⟨#[116,121,112,101]⟩,⟨#[77,117,116,97,116,105,111,110]⟩,⟨#[123]⟩,⟨#[115,101,116]⟩,⟨#[40]⟩,⟨#[105,100]⟩,⟨#[58]⟩,⟨#[73,110,116]⟩,⟨#[33]⟩,⟨#[99,101,108,108]⟩,⟨#[58]⟩,⟨#[83,116,114,105,110,103]⟩,⟨#[33]⟩,⟨#[118,97,108,117,101]⟩,⟨#[58]⟩,⟨#[73,110,116]⟩,⟨#[41]⟩,⟨#[58]⟩,⟨#[80,101,114,115,111,110]⟩,⟨#[110]⟩,⟨#[58]⟩,⟨#[73,110,116]⟩,⟨#[33]⟩,⟨#[125]⟩,⟨#[116,121,112,101]⟩,⟨#[80,101,114,115,111,110]⟩,⟨#[123]⟩,⟨#[110,97,109,101]⟩,⟨#[58]⟩,⟨#[83,116,114,105,110,103]⟩,⟨#[33]⟩,⟨#[97,103,101]⟩,⟨#[58]⟩,⟨#[73,110,116]⟩,⟨#[112,101,116]⟩,⟨#[58]⟩,⟨#[80,101,116]⟩,⟨#[102,114,105,101,110,100,115]⟩,⟨#[58]⟩,⟨#[91]⟩,⟨#[80,101,114,115,111,110]⟩,⟨#[93]⟩,⟨#[107,105,110,100]⟩,⟨#[58]⟩,⟨#[75,105,110,100]⟩,⟨#[125]⟩,⟨#[116,121,112,101]⟩,⟨#[80,101,116]⟩,⟨#[123]⟩,⟨#[110,97,109,101]⟩,⟨#[58]⟩,⟨#[83,116,114,105,110,103]⟩,⟨#[33]⟩,⟨#[111,119,110,101,114]⟩,⟨#[58]⟩,⟨#[80,101,114,115,111,110]⟩,⟨#[33]⟩,⟨#[125]⟩,⟨#[101,110,117,109]⟩,⟨#[75,105,110,100]⟩,⟨#[123]⟩,⟨#[67,65,84]⟩,⟨#[68,79,71]⟩,⟨#[125]⟩,⟨#[117,110,105,111,110]⟩,⟨#[84,104,105,110,103]⟩,⟨#[61]⟩,⟨#[80,101,114,115,111,110]⟩,⟨#[124]⟩,⟨#[80,101,116]⟩,⟨#[105,110,112,117,116]⟩,⟨#[73,110]⟩,⟨#[123]⟩,⟨#[97]⟩,⟨#[58]⟩,⟨#[73,110,116]⟩,⟨#[33]⟩,⟨#[98]⟩,⟨#[58]⟩,⟨#[91]⟩,⟨#[83,116,114,105,110,103]⟩,⟨#[93]⟩,⟨#[99]⟩,⟨#[58]⟩,⟨#[73,110]⟩,⟨#[125]⟩]
def schemaL:List Def:=[
  ⟨⟨#[81,117,101,114,121]⟩,1,[⟨⟨#[109,101]⟩,[], .mk ⟨#[80,101,114,115,111,110]⟩ [] true⟩,⟨⟨#[97,108,108]⟩,[⟨⟨#[102,105,114,115,116]⟩, .mk ⟨#[73,110,116]⟩ [] false,false,noVal⟩], .mk ⟨#[]⟩ [.mk ⟨#[80,101,114,115,111,110]⟩ [] true] false⟩,⟨⟨#[102,105,110,100]⟩,[⟨⟨#[105,100]⟩, .mk ⟨#[73,68]⟩ [] false,false,noVal⟩,⟨⟨#[107,105,110,100]⟩, .mk ⟨#[75,105,110,100]⟩ [] false,true, .mk 7 0 ⟨#[67,65,84]⟩ [] []⟩], .mk ⟨#[84,104,105,110,103]⟩ [] false⟩,⟨⟨#[110]⟩,[], .mk ⟨#[73,110,116]⟩ [] true⟩,⟨⟨#[119,111,114,100,115]⟩,[], .mk ⟨#[]⟩ [.mk ⟨#[]⟩ [.mk ⟨#[83,116,114,105,110,103]⟩ [] true] false] false⟩],[]⟩,
  ⟨⟨#[77,117,116,97,116,105,111,110]⟩,1,[⟨⟨#[115,101,116]⟩,[⟨⟨#[105,100]⟩, .mk ⟨#[73,110,116]⟩ [] true,false,noVal⟩,⟨⟨#[99,101,108,108]⟩, .mk ⟨#[83,116,114,105,110,103]⟩ [] true,false,noVal⟩,⟨⟨#[118,97,108,117,101]⟩, .mk ⟨#[73,110,116]⟩ [] false,false,noVal⟩], .mk ⟨#[80,101,114,115,111,110]⟩ [] false⟩,⟨⟨#[110]⟩,[], .mk ⟨#[73,110,116]⟩ [] true⟩],[]⟩,
  ⟨⟨#[80,101,114,115,111,110]⟩,1,[⟨⟨#[110,97,109,101]⟩,[], .mk ⟨#[83,116,114,105,110,103]⟩ [] true⟩,⟨⟨#[97,103,101]⟩,[], .mk ⟨#[73,110,116]⟩ [] false⟩,⟨⟨#[112,101,116]⟩,[], .mk ⟨#[80,101,116]⟩ [] false⟩,⟨⟨#[102,114,105,101,110,100,115]⟩,[], .mk ⟨#[]⟩ [.mk ⟨#[80,101,114,115,111,110]⟩ [] false] false⟩,⟨⟨#[107,105,110,100]⟩,[], .mk ⟨#[75,105,110,100]⟩ [] false⟩],[]⟩,
  ⟨⟨#[80,101,116]⟩,1,[⟨⟨#[110,97,109,101]⟩,[], .mk ⟨#[83,116,114,105,110,103]⟩ [] true⟩,⟨⟨#[111,119,110,101,114]⟩,[], .mk ⟨#[80,101,114,115,111,110]⟩ [] true⟩],[]⟩,
  ⟨⟨#[75,105,110,100]⟩,2,[],[⟨#[67,65,84]⟩,⟨#[68,79,71]⟩]⟩,
  ⟨⟨#[84,104,105,110,103]⟩,4,[],[⟨#[80,101,114,115,111,110]⟩,⟨#[80,101,116]⟩]⟩,
  ⟨⟨#[73,110]⟩,3,[⟨⟨#[97]⟩,[], .mk ⟨#[73,110,116]⟩ [] true⟩,⟨⟨#[98]⟩,[], .mk ⟨#[]⟩ [.mk ⟨#[83,116,114,105,110,103]⟩ [] false] false⟩,⟨⟨#[99]⟩,[], .mk ⟨#[73,110]⟩ [] false⟩],[]⟩]
theorem lit_plain:litL.all plainU=true:=by decide +kernel
theorem lit_words:(wordsL litL).map bs=litW:=by decide +kernel
theorem lit_schema:pDefs litW litW.length 0=some schemaL:=by kernel_rfl
end Go.Proofs.YtlmpjblmmpddeaaGreat
namespace Go.Proofs.YtlmpjblmmpddeaaGreat
open Go.Sh
variable {gl:Nat→Option D}
def rdMu (R n:Nat) (_:Env) (S:St):Nat:=match S.B R with | some [_, .d (.v (.int _ i)),_]=>n - i.toNat | _=>0
theorem rdMu_lt {R n i j:Nat}{ws:List ByteArray}{b b':Bool}{E E':Env}{S S':St} (h:S.B R=some (rdC ws i b)) (h':S'.B R=some (rdC ws j b')) (hij:i<j) (hj:j≤n):rdMu R n E' S'<rdMu R n E S:=by
  unfold rdMu
  rw[h,h']
  simp
  omega
theorem rows_add {α:Type} (f:α→List Sk) (l:List α) (x:α):rowsZ f (l++[x])=rowsZ f l++f x:=by simp[rowsZ]
theorem AccZ.pos {S:St}{lo hi z n:Nat}{sk:List Sk}{X:SV} (h:AccZ S lo hi z n sk X) (hn:n≠0):∃ b,X=.sk b n z:=by
  obtain⟨x,rfl,e2,_⟩:=h
  rcases ld_z e2 with ⟨_,h0⟩ | ⟨b,cs,rfl,_,_⟩
  · exact absurd h0 hn
  · exact⟨b,rfl⟩
theorem OpT_addZ2 {P:Program}{S1 S:St}{lo hi z n:Nat}{sk:List Sk}{X:SV}{xs:List SV}{lo2 hi2 id:Nat}{dst:Option Nat}{T e by_:Nat}{K:Bool→SV→Eff→Prop} (N:List Ld) (hT:appOf P T=some (e,z,by_))
    (h:AccZ S1 lo hi z n sk X) (hl:sk.length=n*z) (hb:appBound n 1 by_) (hx:xs=svs N) (hNl:N.length=z) (h0:lo≤hi) (h1:hi≤lo2) (h2:lo2≤hi2) (h3:hi2≤id) (hS:∀ b,lo≤b→b<hi→S.B b=S1.B b) (hN:At S lo2 hi2 N)
    (hK:∀ X' S' E',S.app id E'=S'→AccZ S' lo (id+1) z (n+1) (sk++shs N) X'→(∀ b,(b<lo∨hi≤b)→b≠id→S'.B b=S.B b)→SameT S S'→K true X' E'):OpT (evalAppend P S id dst T X (.ls xs 1)) K :=
  OpT_addZ h hl hS hx hN hNl hT hb h1 (by omega) (by omega) (by omega) (by omega) (by omega) (fun p hp=>by have:=hN.rng p hp;omega) hK
theorem three_of {l:List Ld} (h:l.length=3):∃ a b c,l=[a,b,c]:=by
  match l,h with
  | [a,b,c],_=>exact⟨a,b,c,rfl⟩
theorem five_of {l:List Ld} (h:l.length=5):∃ a b c d e,l=[a,b,c,d,e]:=by
  match l,h with
  | [a,b,c,d,e],_=>exact⟨a,b,c,d,e,rfl⟩
structure FldI (S0 Sr S:St) (R N v:Nat) (ws:List ByteArray) (q:Nat) (nm:ByteArray) (Y:SV) (l:List Arg):Prop where
  n:S.n=81
  gl:S.gl=S0.gl
  md:S.md=[1000057,1000076]
  nx:v+1≤S.nx
  rd:S.B R=some (rdC ws q false)
  cell:S.B v=some [.d (dS nm),Y, .d (dS ⟨#[]⟩), .fl [] 0, .d (dB false)]
  row:AccZ S (v+1) S.nx 10 l.length (rowsZ Arg.sz l) Y
  old:∀ y,y<N→y≠R→S.B y=Sr.B y
  T:∀ y,y<N→S.T y=Sr.T y
set_option maxHeartbeats 16000000 in
theorem l_fields (ws:List ByteArray) (hl:ws.length≤1048576) (S0:St) (R i0 j:Nat) (L:List Fld) (hb:wd ws i0=⟨#[123]⟩) (hp:pFlds ws ws.length (i0+1)=some (L,j)) (hR:R<S0.nx) (h:S0.B R=some (rdC ws i0 false)) :
    ∃ r S',LCall Tryz.prog 194 [.op R 0] S0 r S'∧∃ x:Ld,r=x.sv∧x.sh=skZ 5 L.length (rowsZ Fld.sz L)∧Got S0 S' R (rdC ws (j+1) false) [x]:=by
  have hj:=pFlds_le hp
  have hi0:=wd_lt (ws:=ws) (i:=i0) (by rw[hb];decide)
  refine LCall.ex_ (md:=[1000057,1000076]) Tryz.func194 rfl (by kernel_rfl) (by kernel_rfl) (n:=81) Tryz.ntmps194 (by simp) (by decide) rfl ?_
  simp[h]
  generalize hu:S0.nx=u at *
  refine CallT.x (l_must _ R ws i0 false ⟨#[123]⟩ (by simp;omega) (by simp[h]) hl (by omega) hb) rfl (fun r1 S1 hG1=>?_)
  have S1_n:=hG1.n
  try simp at S1_n
  have S1_gl:=hG1.gl
  try simp[S1_n] at S1_gl
  have S1_md:=hG1.md
  try simp[S1_n,S1_gl] at S1_md
  have S1_nx:=hG1.nx
  try simp[S1_n,S1_gl,S1_md] at S1_nx
  have S1_rd:=hG1.rd
  simp[S1_n,S1_gl,S1_md,S1_rd]
  refine LoopT.round (fun E S=>∃ (f:Nat) (i:Nat) (done:List Fld) (rest:List Fld) (X:SV),(pFlds ws f i=some (rest,j))∧(done++rest=L)∧(S.B R=some (rdC ws i false))∧(AccZ S u S.nx 5 done.length (rowsZ Fld.sz done) X)∧(∀ y,y<u→y≠R→S.B y=S0.B y)∧(∀ y,y<u→S.T y=S0.T y)∧(u≤S.nx)∧E 0=some (.op R 0)∧E 3=some (X)) (rdMu R ws.length) ⟨ws.length,i0+1,[],L, .fl [] 0,by simp[S1_n,S1_gl,S1_md,S1_rd];exact⟨hp,AccZ.nil,fun y k1 k2=>by have:=hG1.old y (by simp;omega) k2;simpa using this,fun y k1=>by have:=hG1.T y (by simp;omega);simpa using this,by omega⟩⟩ ?_
  rintro E S hk ⟨f,i,done,rest,X,hpf,hL,hrd,hA,ho,hT,hnx,h0,h3⟩
  have hn:S.n=81:=by first | (simpa using hk.n)|(have hh:=hk.n;simp[S1_n,S1_gl,S1_md,S1_rd] at hh;exact hh)
  have hg:S.gl=S0.gl:=by first | (simpa using hk.gl)|(have hh:=hk.gl;simp[S1_n,S1_gl,S1_md,S1_rd] at hh;exact hh)
  have hmd:S.md=[1000057,1000076]:=by first | (simpa using hk.md)|(have hh:=hk.md;simp[S1_n,S1_gl,S1_md,S1_rd] at hh;exact hh)
  simp[S1_n,S1_gl,S1_md,S1_rd,h0,h3,hn,hg,hmd]
  obtain⟨f,rfl⟩:∃ g,f=g+1:=by
    cases f with
    | zero=>cases hpf
    | succ g=>exact⟨g,rfl⟩
  have hle:=pFlds_le hpf
  have n1:¬ R=u:=by omega
  refine CallT.l (l_peek (ws:=ws) (i:=i) (bad:=false) (by simp[S1_n,S1_gl,S1_md,S1_rd,h0,h3,hn,hg,hmd,hrd]) hl (by omega)) rfl ?_
  rcases pFlds_some hpf with ⟨e1,rfl,rfl⟩ | ⟨e1,a,i',rest',ha,hpf',rfl⟩
  · have e1':=e1
    simp[S1_n,S1_gl,S1_md,S1_rd,h0,h3,hn,hg,hmd,hrd,e1]
    refine CallT.x (l_must _ R ws j false ⟨#[125]⟩ (by simp;omega) (by simp[S1_n,S1_gl,S1_md,S1_rd,h0,h3,hn,hg,hmd,hrd,e1]) hl (by omega) e1') rfl (fun r2 S2 hG2=>?_)
    have S2_n:=hG2.n
    try simp[S1_n,S1_gl,S1_md,S1_rd,h0,h3,hn,hg,hmd,hrd,e1] at S2_n
    have S2_gl:=hG2.gl
    try simp[S1_n,S1_gl,S1_md,S1_rd,h0,h3,hn,hg,hmd,hrd,e1,S2_n] at S2_gl
    have S2_md:=hG2.md
    try simp[S1_n,S1_gl,S1_md,S1_rd,h0,h3,hn,hg,hmd,hrd,e1,S2_n,S2_gl] at S2_md
    have S2_nx:=hG2.nx
    try simp[S1_n,S1_gl,S1_md,S1_rd,h0,h3,hn,hg,hmd,hrd,e1,S2_n,S2_gl,S2_md] at S2_nx
    have S2_rd:=hG2.rd
    simp[S1_n,S1_gl,S1_md,S1_rd,h0,h3,hn,hg,hmd,hrd,e1,S2_n,S2_gl,S2_md,S2_rd]
    obtain⟨x,x1,x2,x3⟩:=hA
    refine⟨x,x1,by rw[← hL,List.append_nil];exact x2,rfl,rfl,rfl,by simp;omega,by simpa using S2_rd,fun y k1 k2=>?_,fun y k1=>?_,?_⟩
    · have a2:=hG2.old y (by simp;omega) k2
      simp at a2 ⊢
      exact a2.trans (ho y (by omega) k2)
    · have a2:=hG2.T y (by simp;omega)
      simp at a2 ⊢
      exact a2.trans (hT y (by omega))
    · refine (x3.keep fun b k1 k2=>?_).le (by omega) (by simp;omega)
      have a2:=hG2.old b (by simp;omega) (by omega)
      simpa using a2
  · have hle2:=pFld_le ha
    obtain⟨a1,l,q,t,a2,a3,a4,rfl⟩:=pFld_some ha
    have hdl0:done.length+1≤ws.length:=by
      have:=pFlds_len hp
      rw[← hL] at this
      simp at this
      omega
    obtain⟨Sr,hSr⟩:∃ Sr,S=Sr:=⟨_,rfl⟩
    obtain⟨N,hN⟩:∃ N,S.nx=N:=⟨_,rfl⟩
    have hrO:∀ y,y<N→y≠R→S.B y=Sr.B y:=fun y _ _=>by rw[hSr]
    have hrT:∀ y,y<N→S.T y=Sr.T y:=fun y _=>by rw[hSr]
    have hi1:=nameB_lt a1
    simp[S1_n,S1_gl,S1_md,S1_rd,h0,h3,hn,hg,hmd,hrd,e1]
    refine CallT.x (l_name _ R ws i false (by simp;omega) (by simp[S1_n,S1_gl,S1_md,S1_rd,h0,h3,hn,hg,hmd,hrd,e1]) hl (by omega) a1 (by have:=nameB_size a1;omega)) rfl (fun r2 S2 h2=>?_)
    obtain⟨q2,hG2⟩:=h2
    subst q2
    have S2_n:=hG2.n
    try simp[S1_n,S1_gl,S1_md,S1_rd,h0,h3,hn,hg,hmd,hrd,e1] at S2_n
    have S2_gl:=hG2.gl
    try simp[S1_n,S1_gl,S1_md,S1_rd,h0,h3,hn,hg,hmd,hrd,e1,S2_n] at S2_gl
    have S2_md:=hG2.md
    try simp[S1_n,S1_gl,S1_md,S1_rd,h0,h3,hn,hg,hmd,hrd,e1,S2_n,S2_gl] at S2_md
    have S2_nx:=hG2.nx
    try simp[S1_n,S1_gl,S1_md,S1_rd,h0,h3,hn,hg,hmd,hrd,e1,S2_n,S2_gl,S2_md] at S2_nx
    have S2_rd:=hG2.rd
    have S2_o:∀ y,y<N→y≠R→S2.B y=Sr.B y:=fun y k1 k2=>by
      have a1:=hG2.old y (by first | omega | (simp;omega)) k2
      try simp[] at a1
      exact a1.trans (hrO y k1 k2)
    have S2_t:∀ y,y<N→S2.T y=Sr.T y:=fun y k1=>by
      have a1:=hG2.T y (by first | omega | (simp;omega))
      try simp at a1
      exact a1.trans (hrT y k1)
    simp[S1_n,S1_gl,S1_md,S1_rd,h0,h3,hn,hg,hmd,hrd,e1,S2_n,S2_gl,S2_md,S2_rd]
    obtain⟨v,hv⟩:∃ v,S.nx+10+3=v:=⟨_,rfl⟩
    have nRv:¬ R=v:=by omega
    have nvR:¬ v=R:=by omega
    rw[hv]
    refine CallT.l (l_peek (ws:=ws) (i:=i+1) (bad:=false) (by simp[S1_n,S1_gl,S1_md,S1_rd,h0,h3,hn,hg,hmd,hrd,e1,S2_n,S2_gl,S2_md,S2_rd,nRv,nvR]) hl (by omega)) rfl ?_
    rcases pBra_some a2 with ⟨b1,b2,q',b3,rfl⟩ | ⟨b1,rfl,rfl⟩
    case' inl =>
      have hq':=pArgs_le b3
      have b1':=b1
      simp[S1_n,S1_gl,S1_md,S1_rd,h0,h3,hn,hg,hmd,hrd,e1,S2_n,S2_gl,S2_md,S2_rd,nRv,nvR,b1]
      refine CallT.x (l_next _ R ws (i+1) false (by simp;omega) (by simp[S1_n,S1_gl,S1_md,S1_rd,h0,h3,hn,hg,hmd,hrd,e1,S2_n,S2_gl,S2_md,S2_rd,nRv,nvR,b1]) hl (by omega)) rfl (fun r3 S3 h3=>?_)
      obtain⟨q3,hG3⟩:=h3
      subst q3
      have S3_n:=hG3.n
      try simp[S1_n,S1_gl,S1_md,S1_rd,h0,h3,hn,hg,hmd,hrd,e1,S2_n,S2_gl,S2_md,S2_rd,nRv,nvR,b1] at S3_n
      have S3_gl:=hG3.gl
      try simp[S1_n,S1_gl,S1_md,S1_rd,h0,h3,hn,hg,hmd,hrd,e1,S2_n,S2_gl,S2_md,S2_rd,nRv,nvR,b1,S3_n] at S3_gl
      have S3_md:=hG3.md
      try simp[S1_n,S1_gl,S1_md,S1_rd,h0,h3,hn,hg,hmd,hrd,e1,S2_n,S2_gl,S2_md,S2_rd,nRv,nvR,b1,S3_n,S3_gl] at S3_md
      have S3_nx:=hG3.nx
      try simp[S1_n,S1_gl,S1_md,S1_rd,h0,h3,hn,hg,hmd,hrd,e1,S2_n,S2_gl,S2_md,S2_rd,nRv,nvR,b1,S3_n,S3_gl,S3_md] at S3_nx
      have S3_rd:=hG3.rd
      have v_S3:=hG3.old v (by first | omega | (simp;omega)) (by omega)
      try simp[S1_n,S1_gl,S1_md,S1_rd,h0,h3,hn,hg,hmd,hrd,e1,S2_n,S2_gl,S2_md,S2_rd,nRv,nvR,b1,S3_n,S3_gl,S3_md,S3_rd] at v_S3
      have S3_o:∀ y,y<N→y≠R→S3.B y=Sr.B y:=fun y k1 k2=>by
        have a1:=hG3.old y (by first | omega | (simp;omega)) k2
        have y1:¬ y=v:=by omega
        try simp[y1] at a1
        exact a1.trans (S2_o y k1 k2)
      have S3_t:∀ y,y<N→S3.T y=Sr.T y:=fun y k1=>by
        have a1:=hG3.T y (by first | omega | (simp;omega))
        try simp at a1
        exact a1.trans (S2_t y k1)
      simp[S1_n,S1_gl,S1_md,S1_rd,h0,h3,hn,hg,hmd,hrd,e1,S2_n,S2_gl,S2_md,S2_rd,nRv,nvR,b1,S3_n,S3_gl,S3_md,S3_rd,v_S3]
      refine LoopT.round (fun E S=>∃ (f2:Nat) (i2:Nat) (done2:List Arg) (rest2:List Arg) (Y:SV),(pArgs ws f2 i2=some (rest2,q'))∧(done2++rest2=l)∧(S.B R=some (rdC ws i2 false))∧(AccZ S (v+1) S.nx 10 done2.length (rowsZ Arg.sz done2) Y)∧(∀ y,y<N→y≠R→S.B y=Sr.B y)∧(∀ y,y<N→S.T y=Sr.T y)∧(v+1≤S.nx)∧(S.B v=some [.d (dS (wd ws i)),Y, .d (dS ⟨#[]⟩), .fl [] 0, .d (dB false)])∧E 0=some (.op R 0)∧E 3=some (X)∧E 4=some (.op v 0)) (rdMu R ws.length) ⟨ws.length,i+1+1,[],l, .fl [] 0,by simp[S1_n,S1_gl,S1_md,S1_rd,h0,h3,hn,hg,hmd,hrd,e1,S2_n,S2_gl,S2_md,S2_rd,nRv,nvR,b1,S3_n,S3_gl,S3_md,S3_rd,v_S3];exact⟨b3,AccZ.nil,S3_o,S3_t,by omega⟩⟩ ?_
      rintro E S hk ⟨f2,i2,done2,rest2,Y,hp2,hL2,hrd2,hA2,hrO2,hrT2,hnx2,hBv,h0,h3,h4⟩
      have hn:S.n=81:=by first | (simpa using hk.n)|(have hh:=hk.n;simp[S1_n,S1_gl,S1_md,S1_rd,h0,h3,hn,hg,hmd,hrd,e1,S2_n,S2_gl,S2_md,S2_rd,nRv,nvR,b1,S3_n,S3_gl,S3_md,S3_rd,v_S3] at hh;exact hh)
      have hg:S.gl=S0.gl:=by first | (simpa using hk.gl)|(have hh:=hk.gl;simp[S1_n,S1_gl,S1_md,S1_rd,h0,h3,hn,hg,hmd,hrd,e1,S2_n,S2_gl,S2_md,S2_rd,nRv,nvR,b1,S3_n,S3_gl,S3_md,S3_rd,v_S3] at hh;exact hh)
      have hmd:S.md=[1000057,1000076]:=by first | (simpa using hk.md)|(have hh:=hk.md;simp[S1_n,S1_gl,S1_md,S1_rd,h0,h3,hn,hg,hmd,hrd,e1,S2_n,S2_gl,S2_md,S2_rd,nRv,nvR,b1,S3_n,S3_gl,S3_md,S3_rd,v_S3] at hh;exact hh)
      simp[S1_n,S1_gl,S1_md,S1_rd,h0,h3,hn,hg,hmd,hrd,e1,S2_n,S2_gl,S2_md,S2_rd,nRv,nvR,b1,S3_n,S3_gl,S3_md,S3_rd,v_S3,h0,h3,h4,hn,hg,hmd]
      obtain⟨f2,rfl⟩:∃ g,f2=g+1:=by
        cases f2 with
        | zero=>cases hp2
        | succ g=>exact⟨g,rfl⟩
      have hle3:=pArgs_le hp2
      have hyo:=hA2.one
      obtain⟨y1,y2,y3⟩:=hyo
      refine CallT.l (l_peek (ws:=ws) (i:=i2) (bad:=false) (by simp[S1_n,S1_gl,S1_md,S1_rd,h0,h3,hn,hg,hmd,hrd,e1,S2_n,S2_gl,S2_md,S2_rd,nRv,nvR,b1,S3_n,S3_gl,S3_md,S3_rd,v_S3,h0,h3,h4,hn,hg,hmd,hrd2,hBv,y1,y2,y3]) hl (by omega)) rfl ?_
      rcases pArgs_some hp2 with ⟨e2,rfl,rfl⟩ | ⟨e2,a,i3,r2,c1,c2,rfl⟩
      case' inr =>
        obtain⟨c3,c4,t2,j2,c5,c6⟩:=pArg_some c1
        have hc1:=pArg_le c1
        have hdl:done2.length+1≤ws.length:=by
          have:=pArgs_len b3
          rw[← hL2] at this
          simp at this
          omega
        have hc3:=nameB_lt c3
        have hc5:=pTyp_le c5
        obtain⟨Sr2,hSr2⟩:∃ Sr2,S=Sr2:=⟨_,rfl⟩
        obtain⟨N2,hN2⟩:∃ N2,S.nx=N2:=⟨_,rfl⟩
        have hr3:∀ y,y<N2→y≠R→S.B y=Sr2.B y:=fun y _ _=>by rw[hSr2]
        have ht3:∀ y,y<N2→S.T y=Sr2.T y:=fun y _=>by rw[hSr2]
        simp[S1_n,S1_gl,S1_md,S1_rd,h0,h3,hn,hg,hmd,hrd,e1,S2_n,S2_gl,S2_md,S2_rd,nRv,nvR,b1,S3_n,S3_gl,S3_md,S3_rd,v_S3,h0,h3,h4,hn,hg,hmd,hrd2,hBv,y1,y2,y3,e2]
        refine CallT.x (l_name _ R ws i2 false (by simp;omega) (by simp[S1_n,S1_gl,S1_md,S1_rd,h0,h3,hn,hg,hmd,hrd,e1,S2_n,S2_gl,S2_md,S2_rd,nRv,nvR,b1,S3_n,S3_gl,S3_md,S3_rd,v_S3,h0,h3,h4,hn,hg,hmd,hrd2,hBv,y1,y2,y3,e2]) hl (by omega) c3 (by have:=nameB_size c3;omega)) rfl (fun r4 S4 h4=>?_)
        obtain⟨q4,hG4⟩:=h4
        subst q4
        have S4_n:=hG4.n
        try simp[S1_n,S1_gl,S1_md,S1_rd,h0,h3,hn,hg,hmd,hrd,e1,S2_n,S2_gl,S2_md,S2_rd,nRv,nvR,b1,S3_n,S3_gl,S3_md,S3_rd,v_S3,h0,h3,h4,hn,hg,hmd,hrd2,hBv,y1,y2,y3,e2] at S4_n
        have S4_gl:=hG4.gl
        try simp[S1_n,S1_gl,S1_md,S1_rd,h0,h3,hn,hg,hmd,hrd,e1,S2_n,S2_gl,S2_md,S2_rd,nRv,nvR,b1,S3_n,S3_gl,S3_md,S3_rd,v_S3,h0,h3,h4,hn,hg,hmd,hrd2,hBv,y1,y2,y3,e2,S4_n] at S4_gl
        have S4_md:=hG4.md
        try simp[S1_n,S1_gl,S1_md,S1_rd,h0,h3,hn,hg,hmd,hrd,e1,S2_n,S2_gl,S2_md,S2_rd,nRv,nvR,b1,S3_n,S3_gl,S3_md,S3_rd,v_S3,h0,h3,h4,hn,hg,hmd,hrd2,hBv,y1,y2,y3,e2,S4_n,S4_gl] at S4_md
        have S4_nx:=hG4.nx
        try simp[S1_n,S1_gl,S1_md,S1_rd,h0,h3,hn,hg,hmd,hrd,e1,S2_n,S2_gl,S2_md,S2_rd,nRv,nvR,b1,S3_n,S3_gl,S3_md,S3_rd,v_S3,h0,h3,h4,hn,hg,hmd,hrd2,hBv,y1,y2,y3,e2,S4_n,S4_gl,S4_md] at S4_nx
        have S4_rd:=hG4.rd
        have v_S4:=hG4.old v (by first | omega | (simp;omega)) (by omega)
        try simp[S1_n,S1_gl,S1_md,S1_rd,h0,h3,hn,hg,hmd,hrd,e1,S2_n,S2_gl,S2_md,S2_rd,nRv,nvR,b1,S3_n,S3_gl,S3_md,S3_rd,v_S3,h0,h3,h4,hn,hg,hmd,hrd2,hBv,y1,y2,y3,e2,S4_n,S4_gl,S4_md,S4_rd] at v_S4
        have S4_o:∀ y,y<N2→y≠R→S4.B y=Sr2.B y:=fun y k1 k2=>by
          have a1:=hG4.old y (by first | omega | (simp;omega)) k2
          try simp[] at a1
          exact a1.trans (hr3 y k1 k2)
        have S4_t:∀ y,y<N2→S4.T y=Sr2.T y:=fun y k1=>by
          have a1:=hG4.T y (by first | omega | (simp;omega))
          try simp at a1
          exact a1.trans (ht3 y k1)
        simp[S1_n,S1_gl,S1_md,S1_rd,h0,h3,hn,hg,hmd,hrd,e1,S2_n,S2_gl,S2_md,S2_rd,nRv,nvR,b1,S3_n,S3_gl,S3_md,S3_rd,v_S3,h0,h3,h4,hn,hg,hmd,hrd2,hBv,y1,y2,y3,e2,S4_n,S4_gl,S4_md,S4_rd,v_S4]
        obtain⟨w,hw⟩:∃ w,S.nx+10+3=w:=⟨_,rfl⟩
        have nRw:¬ R=w:=by omega
        have nwR:¬ w=R:=by omega
        have nvw:¬ v=w:=by omega
        have nwv:¬ w=v:=by omega
        rw[hw]
        refine CallT.x (l_must _ R ws (i2+1) false ⟨#[58]⟩ (by simp;omega) (by simp[S1_n,S1_gl,S1_md,S1_rd,h0,h3,hn,hg,hmd,hrd,e1,S2_n,S2_gl,S2_md,S2_rd,nRv,nvR,b1,S3_n,S3_gl,S3_md,S3_rd,v_S3,h0,h3,h4,hn,hg,hmd,hrd2,hBv,y1,y2,y3,e2,S4_n,S4_gl,S4_md,S4_rd,v_S4,nRw,nwR,nvw,nwv]) hl (by omega) c4) rfl (fun r5 S5 hG5=>?_)
        have S5_n:=hG5.n
        try simp[S1_n,S1_gl,S1_md,S1_rd,h0,h3,hn,hg,hmd,hrd,e1,S2_n,S2_gl,S2_md,S2_rd,nRv,nvR,b1,S3_n,S3_gl,S3_md,S3_rd,v_S3,h0,h3,h4,hn,hg,hmd,hrd2,hBv,y1,y2,y3,e2,S4_n,S4_gl,S4_md,S4_rd,v_S4,nRw,nwR,nvw,nwv] at S5_n
        have S5_gl:=hG5.gl
        try simp[S1_n,S1_gl,S1_md,S1_rd,h0,h3,hn,hg,hmd,hrd,e1,S2_n,S2_gl,S2_md,S2_rd,nRv,nvR,b1,S3_n,S3_gl,S3_md,S3_rd,v_S3,h0,h3,h4,hn,hg,hmd,hrd2,hBv,y1,y2,y3,e2,S4_n,S4_gl,S4_md,S4_rd,v_S4,nRw,nwR,nvw,nwv,S5_n] at S5_gl
        have S5_md:=hG5.md
        try simp[S1_n,S1_gl,S1_md,S1_rd,h0,h3,hn,hg,hmd,hrd,e1,S2_n,S2_gl,S2_md,S2_rd,nRv,nvR,b1,S3_n,S3_gl,S3_md,S3_rd,v_S3,h0,h3,h4,hn,hg,hmd,hrd2,hBv,y1,y2,y3,e2,S4_n,S4_gl,S4_md,S4_rd,v_S4,nRw,nwR,nvw,nwv,S5_n,S5_gl] at S5_md
        have S5_nx:=hG5.nx
        try simp[S1_n,S1_gl,S1_md,S1_rd,h0,h3,hn,hg,hmd,hrd,e1,S2_n,S2_gl,S2_md,S2_rd,nRv,nvR,b1,S3_n,S3_gl,S3_md,S3_rd,v_S3,h0,h3,h4,hn,hg,hmd,hrd2,hBv,y1,y2,y3,e2,S4_n,S4_gl,S4_md,S4_rd,v_S4,nRw,nwR,nvw,nwv,S5_n,S5_gl,S5_md] at S5_nx
        have S5_rd:=hG5.rd
        have v_S5:=hG5.old v (by first | omega | (simp;omega)) (by omega)
        try simp[S1_n,S1_gl,S1_md,S1_rd,h0,h3,hn,hg,hmd,hrd,e1,S2_n,S2_gl,S2_md,S2_rd,nRv,nvR,b1,S3_n,S3_gl,S3_md,S3_rd,v_S3,h0,h3,h4,hn,hg,hmd,hrd2,hBv,y1,y2,y3,e2,S4_n,S4_gl,S4_md,S4_rd,v_S4,nRw,nwR,nvw,nwv,S5_n,S5_gl,S5_md,S5_rd] at v_S5
        have w_S5:=hG5.old w (by first | omega | (simp;omega)) (by omega)
        try simp[S1_n,S1_gl,S1_md,S1_rd,h0,h3,hn,hg,hmd,hrd,e1,S2_n,S2_gl,S2_md,S2_rd,nRv,nvR,b1,S3_n,S3_gl,S3_md,S3_rd,v_S3,h0,h3,h4,hn,hg,hmd,hrd2,hBv,y1,y2,y3,e2,S4_n,S4_gl,S4_md,S4_rd,v_S4,nRw,nwR,nvw,nwv,S5_n,S5_gl,S5_md,S5_rd,v_S5] at w_S5
        have S5_o:∀ y,y<N2→y≠R→S5.B y=Sr2.B y:=fun y k1 k2=>by
          have a1:=hG5.old y (by first | omega | (simp;omega)) k2
          have y1:¬ y=w:=by omega
          try simp[y1] at a1
          exact a1.trans (S4_o y k1 k2)
        have S5_t:∀ y,y<N2→S5.T y=Sr2.T y:=fun y k1=>by
          have a1:=hG5.T y (by first | omega | (simp;omega))
          try simp at a1
          exact a1.trans (S4_t y k1)
        simp[S1_n,S1_gl,S1_md,S1_rd,h0,h3,hn,hg,hmd,hrd,e1,S2_n,S2_gl,S2_md,S2_rd,nRv,nvR,b1,S3_n,S3_gl,S3_md,S3_rd,v_S3,h0,h3,h4,hn,hg,hmd,hrd2,hBv,y1,y2,y3,e2,S4_n,S4_gl,S4_md,S4_rd,v_S4,nRw,nwR,nvw,nwv,S5_n,S5_gl,S5_md,S5_rd,v_S5,w_S5]
        refine CallT.x (l_typ ws hl 3 _ R (i2+2) t2 j2 c5 (by simp;omega) (by simp[S1_n,S1_gl,S1_md,S1_rd,h0,h3,hn,hg,hmd,hrd,e1,S2_n,S2_gl,S2_md,S2_rd,nRv,nvR,b1,S3_n,S3_gl,S3_md,S3_rd,v_S3,h0,h3,h4,hn,hg,hmd,hrd2,hBv,y1,y2,y3,e2,S4_n,S4_gl,S4_md,S4_rd,v_S4,nRw,nwR,nvw,nwv,S5_n,S5_gl,S5_md,S5_rd,v_S5,w_S5]) (by omega)) rfl (fun r6 S6 h6=>?_)
        obtain⟨T6,q6,hT6,hG6⟩:=h6
        subst q6
        have S6_n:=hG6.n
        try simp[S1_n,S1_gl,S1_md,S1_rd,h0,h3,hn,hg,hmd,hrd,e1,S2_n,S2_gl,S2_md,S2_rd,nRv,nvR,b1,S3_n,S3_gl,S3_md,S3_rd,v_S3,h0,h3,h4,hn,hg,hmd,hrd2,hBv,y1,y2,y3,e2,S4_n,S4_gl,S4_md,S4_rd,v_S4,nRw,nwR,nvw,nwv,S5_n,S5_gl,S5_md,S5_rd,v_S5,w_S5] at S6_n
        have S6_gl:=hG6.gl
        try simp[S1_n,S1_gl,S1_md,S1_rd,h0,h3,hn,hg,hmd,hrd,e1,S2_n,S2_gl,S2_md,S2_rd,nRv,nvR,b1,S3_n,S3_gl,S3_md,S3_rd,v_S3,h0,h3,h4,hn,hg,hmd,hrd2,hBv,y1,y2,y3,e2,S4_n,S4_gl,S4_md,S4_rd,v_S4,nRw,nwR,nvw,nwv,S5_n,S5_gl,S5_md,S5_rd,v_S5,w_S5,S6_n] at S6_gl
        have S6_md:=hG6.md
        try simp[S1_n,S1_gl,S1_md,S1_rd,h0,h3,hn,hg,hmd,hrd,e1,S2_n,S2_gl,S2_md,S2_rd,nRv,nvR,b1,S3_n,S3_gl,S3_md,S3_rd,v_S3,h0,h3,h4,hn,hg,hmd,hrd2,hBv,y1,y2,y3,e2,S4_n,S4_gl,S4_md,S4_rd,v_S4,nRw,nwR,nvw,nwv,S5_n,S5_gl,S5_md,S5_rd,v_S5,w_S5,S6_n,S6_gl] at S6_md
        have S6_nx:=hG6.nx
        try simp[S1_n,S1_gl,S1_md,S1_rd,h0,h3,hn,hg,hmd,hrd,e1,S2_n,S2_gl,S2_md,S2_rd,nRv,nvR,b1,S3_n,S3_gl,S3_md,S3_rd,v_S3,h0,h3,h4,hn,hg,hmd,hrd2,hBv,y1,y2,y3,e2,S4_n,S4_gl,S4_md,S4_rd,v_S4,nRw,nwR,nvw,nwv,S5_n,S5_gl,S5_md,S5_rd,v_S5,w_S5,S6_n,S6_gl,S6_md] at S6_nx
        have S6_rd:=hG6.rd
        have v_S6:=hG6.old v (by first | omega | (simp;omega)) (by omega)
        try simp[S1_n,S1_gl,S1_md,S1_rd,h0,h3,hn,hg,hmd,hrd,e1,S2_n,S2_gl,S2_md,S2_rd,nRv,nvR,b1,S3_n,S3_gl,S3_md,S3_rd,v_S3,h0,h3,h4,hn,hg,hmd,hrd2,hBv,y1,y2,y3,e2,S4_n,S4_gl,S4_md,S4_rd,v_S4,nRw,nwR,nvw,nwv,S5_n,S5_gl,S5_md,S5_rd,v_S5,w_S5,S6_n,S6_gl,S6_md,S6_rd] at v_S6
        have w_S6:=hG6.old w (by first | omega | (simp;omega)) (by omega)
        try simp[S1_n,S1_gl,S1_md,S1_rd,h0,h3,hn,hg,hmd,hrd,e1,S2_n,S2_gl,S2_md,S2_rd,nRv,nvR,b1,S3_n,S3_gl,S3_md,S3_rd,v_S3,h0,h3,h4,hn,hg,hmd,hrd2,hBv,y1,y2,y3,e2,S4_n,S4_gl,S4_md,S4_rd,v_S4,nRw,nwR,nvw,nwv,S5_n,S5_gl,S5_md,S5_rd,v_S5,w_S5,S6_n,S6_gl,S6_md,S6_rd,v_S6] at w_S6
        have S6_o:∀ y,y<N2→y≠R→S6.B y=Sr2.B y:=fun y k1 k2=>by
          have a1:=hG6.old y (by first | omega | (simp;omega)) k2
          have y1:¬ y=w:=by omega
          try simp[y1] at a1
          exact a1.trans (S5_o y k1 k2)
        have S6_t:∀ y,y<N2→S6.T y=Sr2.T y:=fun y k1=>by
          have a1:=hG6.T y (by first | omega | (simp;omega))
          try simp at a1
          exact a1.trans (S5_t y k1)
        obtain⟨ta,tb,tc,rfl⟩:=three_of (by rw[← shs_len,hT6];simp:T6.length=3)
        simp[S1_n,S1_gl,S1_md,S1_rd,h0,h3,hn,hg,hmd,hrd,e1,S2_n,S2_gl,S2_md,S2_rd,nRv,nvR,b1,S3_n,S3_gl,S3_md,S3_rd,v_S3,h0,h3,h4,hn,hg,hmd,hrd2,hBv,y1,y2,y3,e2,S4_n,S4_gl,S4_md,S4_rd,v_S4,nRw,nwR,nvw,nwv,S5_n,S5_gl,S5_md,S5_rd,v_S5,w_S5,S6_n,S6_gl,S6_md,S6_rd,v_S6,w_S6]
        refine CallT.l (l_peek (ws:=ws) (i:=j2) (bad:=false) (by simp[S1_n,S1_gl,S1_md,S1_rd,h0,h3,hn,hg,hmd,hrd,e1,S2_n,S2_gl,S2_md,S2_rd,nRv,nvR,b1,S3_n,S3_gl,S3_md,S3_rd,v_S3,h0,h3,h4,hn,hg,hmd,hrd2,hBv,y1,y2,y3,e2,S4_n,S4_gl,S4_md,S4_rd,v_S4,nRw,nwR,nvw,nwv,S5_n,S5_gl,S5_md,S5_rd,v_S5,w_S5,S6_n,S6_gl,S6_md,S6_rd,v_S6,w_S6]) hl (by omega)) rfl ?_
        rcases c6 with ⟨d1,d2,rfl,rfl⟩ | ⟨d1,rfl,rfl⟩
        case' inl =>
          have d1':=d1
          have hd2:=nameB_lt (wordVB_name d2)
          simp[S1_n,S1_gl,S1_md,S1_rd,h0,h3,hn,hg,hmd,hrd,e1,S2_n,S2_gl,S2_md,S2_rd,nRv,nvR,b1,S3_n,S3_gl,S3_md,S3_rd,v_S3,h0,h3,h4,hn,hg,hmd,hrd2,hBv,y1,y2,y3,e2,S4_n,S4_gl,S4_md,S4_rd,v_S4,nRw,nwR,nvw,nwv,S5_n,S5_gl,S5_md,S5_rd,v_S5,w_S5,S6_n,S6_gl,S6_md,S6_rd,v_S6,w_S6,d1]
          refine CallT.x (l_next _ R ws j2 false (by simp;omega) (by simp[S1_n,S1_gl,S1_md,S1_rd,h0,h3,hn,hg,hmd,hrd,e1,S2_n,S2_gl,S2_md,S2_rd,nRv,nvR,b1,S3_n,S3_gl,S3_md,S3_rd,v_S3,h0,h3,h4,hn,hg,hmd,hrd2,hBv,y1,y2,y3,e2,S4_n,S4_gl,S4_md,S4_rd,v_S4,nRw,nwR,nvw,nwv,S5_n,S5_gl,S5_md,S5_rd,v_S5,w_S5,S6_n,S6_gl,S6_md,S6_rd,v_S6,w_S6,d1]) hl (by omega)) rfl (fun r7 S7 h7=>?_)
          obtain⟨q7,hG7⟩:=h7
          subst q7
          have S7_n:=hG7.n
          try simp[S1_n,S1_gl,S1_md,S1_rd,h0,h3,hn,hg,hmd,hrd,e1,S2_n,S2_gl,S2_md,S2_rd,nRv,nvR,b1,S3_n,S3_gl,S3_md,S3_rd,v_S3,h0,h3,h4,hn,hg,hmd,hrd2,hBv,y1,y2,y3,e2,S4_n,S4_gl,S4_md,S4_rd,v_S4,nRw,nwR,nvw,nwv,S5_n,S5_gl,S5_md,S5_rd,v_S5,w_S5,S6_n,S6_gl,S6_md,S6_rd,v_S6,w_S6,d1] at S7_n
          have S7_gl:=hG7.gl
          try simp[S1_n,S1_gl,S1_md,S1_rd,h0,h3,hn,hg,hmd,hrd,e1,S2_n,S2_gl,S2_md,S2_rd,nRv,nvR,b1,S3_n,S3_gl,S3_md,S3_rd,v_S3,h0,h3,h4,hn,hg,hmd,hrd2,hBv,y1,y2,y3,e2,S4_n,S4_gl,S4_md,S4_rd,v_S4,nRw,nwR,nvw,nwv,S5_n,S5_gl,S5_md,S5_rd,v_S5,w_S5,S6_n,S6_gl,S6_md,S6_rd,v_S6,w_S6,d1,S7_n] at S7_gl
          have S7_md:=hG7.md
          try simp[S1_n,S1_gl,S1_md,S1_rd,h0,h3,hn,hg,hmd,hrd,e1,S2_n,S2_gl,S2_md,S2_rd,nRv,nvR,b1,S3_n,S3_gl,S3_md,S3_rd,v_S3,h0,h3,h4,hn,hg,hmd,hrd2,hBv,y1,y2,y3,e2,S4_n,S4_gl,S4_md,S4_rd,v_S4,nRw,nwR,nvw,nwv,S5_n,S5_gl,S5_md,S5_rd,v_S5,w_S5,S6_n,S6_gl,S6_md,S6_rd,v_S6,w_S6,d1,S7_n,S7_gl] at S7_md
          have S7_nx:=hG7.nx
          try simp[S1_n,S1_gl,S1_md,S1_rd,h0,h3,hn,hg,hmd,hrd,e1,S2_n,S2_gl,S2_md,S2_rd,nRv,nvR,b1,S3_n,S3_gl,S3_md,S3_rd,v_S3,h0,h3,h4,hn,hg,hmd,hrd2,hBv,y1,y2,y3,e2,S4_n,S4_gl,S4_md,S4_rd,v_S4,nRw,nwR,nvw,nwv,S5_n,S5_gl,S5_md,S5_rd,v_S5,w_S5,S6_n,S6_gl,S6_md,S6_rd,v_S6,w_S6,d1,S7_n,S7_gl,S7_md] at S7_nx
          have S7_rd:=hG7.rd
          have v_S7:=hG7.old v (by first | omega | (simp;omega)) (by omega)
          try simp[S1_n,S1_gl,S1_md,S1_rd,h0,h3,hn,hg,hmd,hrd,e1,S2_n,S2_gl,S2_md,S2_rd,nRv,nvR,b1,S3_n,S3_gl,S3_md,S3_rd,v_S3,h0,h3,h4,hn,hg,hmd,hrd2,hBv,y1,y2,y3,e2,S4_n,S4_gl,S4_md,S4_rd,v_S4,nRw,nwR,nvw,nwv,S5_n,S5_gl,S5_md,S5_rd,v_S5,w_S5,S6_n,S6_gl,S6_md,S6_rd,v_S6,w_S6,d1,S7_n,S7_gl,S7_md,S7_rd] at v_S7
          have w_S7:=hG7.old w (by first | omega | (simp;omega)) (by omega)
          try simp[S1_n,S1_gl,S1_md,S1_rd,h0,h3,hn,hg,hmd,hrd,e1,S2_n,S2_gl,S2_md,S2_rd,nRv,nvR,b1,S3_n,S3_gl,S3_md,S3_rd,v_S3,h0,h3,h4,hn,hg,hmd,hrd2,hBv,y1,y2,y3,e2,S4_n,S4_gl,S4_md,S4_rd,v_S4,nRw,nwR,nvw,nwv,S5_n,S5_gl,S5_md,S5_rd,v_S5,w_S5,S6_n,S6_gl,S6_md,S6_rd,v_S6,w_S6,d1,S7_n,S7_gl,S7_md,S7_rd,v_S7] at w_S7
          have S7_o:∀ y,y<N2→y≠R→S7.B y=Sr2.B y:=fun y k1 k2=>by
            have a1:=hG7.old y (by first | omega | (simp;omega)) k2
            have y1:¬ y=w:=by omega
            try simp[y1] at a1
            exact a1.trans (S6_o y k1 k2)
          have S7_t:∀ y,y<N2→S7.T y=Sr2.T y:=fun y k1=>by
            have a1:=hG7.T y (by first | omega | (simp;omega))
            try simp at a1
            exact a1.trans (S6_t y k1)
          simp[S1_n,S1_gl,S1_md,S1_rd,h0,h3,hn,hg,hmd,hrd,e1,S2_n,S2_gl,S2_md,S2_rd,nRv,nvR,b1,S3_n,S3_gl,S3_md,S3_rd,v_S3,h0,h3,h4,hn,hg,hmd,hrd2,hBv,y1,y2,y3,e2,S4_n,S4_gl,S4_md,S4_rd,v_S4,nRw,nwR,nvw,nwv,S5_n,S5_gl,S5_md,S5_rd,v_S5,w_S5,S6_n,S6_gl,S6_md,S6_rd,v_S6,w_S6,d1,S7_n,S7_gl,S7_md,S7_rd,v_S7,w_S7]
          refine CallT.x (l_valueW _ R ws (j2+1) 3 (by simp;omega) (by simp[S1_n,S1_gl,S1_md,S1_rd,h0,h3,hn,hg,hmd,hrd,e1,S2_n,S2_gl,S2_md,S2_rd,nRv,nvR,b1,S3_n,S3_gl,S3_md,S3_rd,v_S3,h0,h3,h4,hn,hg,hmd,hrd2,hBv,y1,y2,y3,e2,S4_n,S4_gl,S4_md,S4_rd,v_S4,nRw,nwR,nvw,nwv,S5_n,S5_gl,S5_md,S5_rd,v_S5,w_S5,S6_n,S6_gl,S6_md,S6_rd,v_S6,w_S6,d1,S7_n,S7_gl,S7_md,S7_rd,v_S7,w_S7]) hl (by omega) (by omega) (by omega) d2) rfl (fun r8 S8 h8=>?_)
          obtain⟨V8,q8,hV8,hG8⟩:=h8
          subst q8
          have S8_n:=hG8.n
          try simp[S1_n,S1_gl,S1_md,S1_rd,h0,h3,hn,hg,hmd,hrd,e1,S2_n,S2_gl,S2_md,S2_rd,nRv,nvR,b1,S3_n,S3_gl,S3_md,S3_rd,v_S3,h0,h3,h4,hn,hg,hmd,hrd2,hBv,y1,y2,y3,e2,S4_n,S4_gl,S4_md,S4_rd,v_S4,nRw,nwR,nvw,nwv,S5_n,S5_gl,S5_md,S5_rd,v_S5,w_S5,S6_n,S6_gl,S6_md,S6_rd,v_S6,w_S6,d1,S7_n,S7_gl,S7_md,S7_rd,v_S7,w_S7] at S8_n
          have S8_gl:=hG8.gl
          try simp[S1_n,S1_gl,S1_md,S1_rd,h0,h3,hn,hg,hmd,hrd,e1,S2_n,S2_gl,S2_md,S2_rd,nRv,nvR,b1,S3_n,S3_gl,S3_md,S3_rd,v_S3,h0,h3,h4,hn,hg,hmd,hrd2,hBv,y1,y2,y3,e2,S4_n,S4_gl,S4_md,S4_rd,v_S4,nRw,nwR,nvw,nwv,S5_n,S5_gl,S5_md,S5_rd,v_S5,w_S5,S6_n,S6_gl,S6_md,S6_rd,v_S6,w_S6,d1,S7_n,S7_gl,S7_md,S7_rd,v_S7,w_S7,S8_n] at S8_gl
          have S8_md:=hG8.md
          try simp[S1_n,S1_gl,S1_md,S1_rd,h0,h3,hn,hg,hmd,hrd,e1,S2_n,S2_gl,S2_md,S2_rd,nRv,nvR,b1,S3_n,S3_gl,S3_md,S3_rd,v_S3,h0,h3,h4,hn,hg,hmd,hrd2,hBv,y1,y2,y3,e2,S4_n,S4_gl,S4_md,S4_rd,v_S4,nRw,nwR,nvw,nwv,S5_n,S5_gl,S5_md,S5_rd,v_S5,w_S5,S6_n,S6_gl,S6_md,S6_rd,v_S6,w_S6,d1,S7_n,S7_gl,S7_md,S7_rd,v_S7,w_S7,S8_n,S8_gl] at S8_md
          have S8_nx:=hG8.nx
          try simp[S1_n,S1_gl,S1_md,S1_rd,h0,h3,hn,hg,hmd,hrd,e1,S2_n,S2_gl,S2_md,S2_rd,nRv,nvR,b1,S3_n,S3_gl,S3_md,S3_rd,v_S3,h0,h3,h4,hn,hg,hmd,hrd2,hBv,y1,y2,y3,e2,S4_n,S4_gl,S4_md,S4_rd,v_S4,nRw,nwR,nvw,nwv,S5_n,S5_gl,S5_md,S5_rd,v_S5,w_S5,S6_n,S6_gl,S6_md,S6_rd,v_S6,w_S6,d1,S7_n,S7_gl,S7_md,S7_rd,v_S7,w_S7,S8_n,S8_gl,S8_md] at S8_nx
          have S8_rd:=hG8.rd
          have v_S8:=hG8.old v (by first | omega | (simp;omega)) (by omega)
          try simp[S1_n,S1_gl,S1_md,S1_rd,h0,h3,hn,hg,hmd,hrd,e1,S2_n,S2_gl,S2_md,S2_rd,nRv,nvR,b1,S3_n,S3_gl,S3_md,S3_rd,v_S3,h0,h3,h4,hn,hg,hmd,hrd2,hBv,y1,y2,y3,e2,S4_n,S4_gl,S4_md,S4_rd,v_S4,nRw,nwR,nvw,nwv,S5_n,S5_gl,S5_md,S5_rd,v_S5,w_S5,S6_n,S6_gl,S6_md,S6_rd,v_S6,w_S6,d1,S7_n,S7_gl,S7_md,S7_rd,v_S7,w_S7,S8_n,S8_gl,S8_md,S8_rd] at v_S8
          have w_S8:=hG8.old w (by first | omega | (simp;omega)) (by omega)
          try simp[S1_n,S1_gl,S1_md,S1_rd,h0,h3,hn,hg,hmd,hrd,e1,S2_n,S2_gl,S2_md,S2_rd,nRv,nvR,b1,S3_n,S3_gl,S3_md,S3_rd,v_S3,h0,h3,h4,hn,hg,hmd,hrd2,hBv,y1,y2,y3,e2,S4_n,S4_gl,S4_md,S4_rd,v_S4,nRw,nwR,nvw,nwv,S5_n,S5_gl,S5_md,S5_rd,v_S5,w_S5,S6_n,S6_gl,S6_md,S6_rd,v_S6,w_S6,d1,S7_n,S7_gl,S7_md,S7_rd,v_S7,w_S7,S8_n,S8_gl,S8_md,S8_rd,v_S8] at w_S8
          have S8_o:∀ y,y<N2→y≠R→S8.B y=Sr2.B y:=fun y k1 k2=>by
            have a1:=hG8.old y (by first | omega | (simp;omega)) k2
            have y1:¬ y=w:=by omega
            try simp[y1] at a1
            exact a1.trans (S7_o y k1 k2)
          have S8_t:∀ y,y<N2→S8.T y=Sr2.T y:=fun y k1=>by
            have a1:=hG8.T y (by first | omega | (simp;omega))
            try simp at a1
            exact a1.trans (S7_t y k1)
          obtain⟨va,vb,vc,vd,ve,rfl⟩:=five_of (by rw[← shs_len,hV8];simp:V8.length=5)
          simp[S1_n,S1_gl,S1_md,S1_rd,h0,h3,hn,hg,hmd,hrd,e1,S2_n,S2_gl,S2_md,S2_rd,nRv,nvR,b1,S3_n,S3_gl,S3_md,S3_rd,v_S3,h0,h3,h4,hn,hg,hmd,hrd2,hBv,y1,y2,y3,e2,S4_n,S4_gl,S4_md,S4_rd,v_S4,nRw,nwR,nvw,nwv,S5_n,S5_gl,S5_md,S5_rd,v_S5,w_S5,S6_n,S6_gl,S6_md,S6_rd,v_S6,w_S6,d1,S7_n,S7_gl,S7_md,S7_rd,v_S7,w_S7,S8_n,S8_gl,S8_md,S8_rd,v_S8,w_S8]
          refine OpT_addZ2 (e:=118) (by_:=152) (lo2:=N2) (hi2:=S8.nx) [.d (.string (wd ws i2)),ta,tb,tc, .d (.bool true),va,vb,vc,vd,ve] (by kernel_rfl) hA2 (rowsZ_len (fun x=>by simp) _) (by unfold appBound;omega) rfl rfl (by omega) (by omega) (by omega) (by omega) ?_ ?_ ?_
          · intro b k1 k2
            have z1:¬ b=w:=by omega
            simp[z1]
            exact (S8_o b (by omega) (by omega)).trans (by rw[hSr2])
          · refine .cons_d (.app (a:=[ta,tb,tc]) (mid:=S6.nx) ((hG6.new.keep fun b k1 k2=>?_).le ?_ (Nat.le_refl _)) (.cons_d ((hG8.new.keep fun b k1 k2=>?_).le ?_ (Nat.le_refl _))) (by omega) (by omega))
            · simp at k1
              have z1:¬ b=w:=by omega
              have o8:=hG8.old b (by simp;omega) (by omega)
              have o7:=hG7.old b (by simp;omega) (by omega)
              simp[z1] at o8 o7 ⊢
              exact o8.trans o7
            · simp;omega
            · simp at k1
              have z1:¬ b=w:=by omega
              simp[z1]
            · simp;omega
          · intro X9 S9 E9 hE9 hA9 hB9 hs9
            rw[hE9]
            have S9_n:=hs9.n
            have S9_gl:=hs9.gl
            have S9_md:=hs9.md
            have S9_nx:=hs9.nx
            have S9_v:=hB9 v (.inl (by omega)) (by omega)
            have S9_R:=hB9 R (.inl (by omega)) (by omega)
            simp[S1_n,S1_gl,S1_md,S1_rd,h0,h3,hn,hg,hmd,hrd,e1,S2_n,S2_gl,S2_md,S2_rd,nRv,nvR,b1,S3_n,S3_gl,S3_md,S3_rd,v_S3,h0,h3,h4,hn,hg,hmd,hrd2,hBv,y1,y2,y3,e2,S4_n,S4_gl,S4_md,S4_rd,v_S4,nRw,nwR,nvw,nwv,S5_n,S5_gl,S5_md,S5_rd,v_S5,w_S5,S6_n,S6_gl,S6_md,S6_rd,v_S6,w_S6,d1,S7_n,S7_gl,S7_md,S7_rd,v_S7,w_S7,S8_n,S8_gl,S8_md,S8_rd,v_S8,w_S8] at S9_n S9_gl S9_md S9_nx S9_v S9_R
            obtain⟨z1,z2,z3⟩:=hA9.one
            simp[S1_n,S1_gl,S1_md,S1_rd,h0,h3,hn,hg,hmd,hrd,e1,S2_n,S2_gl,S2_md,S2_rd,nRv,nvR,b1,S3_n,S3_gl,S3_md,S3_rd,v_S3,h0,h3,h4,hn,hg,hmd,hrd2,hBv,y1,y2,y3,e2,S4_n,S4_gl,S4_md,S4_rd,v_S4,nRw,nwR,nvw,nwv,S5_n,S5_gl,S5_md,S5_rd,v_S5,w_S5,S6_n,S6_gl,S6_md,S6_rd,v_S6,w_S6,d1,S7_n,S7_gl,S7_md,S7_rd,v_S7,w_S7,S8_n,S8_gl,S8_md,S8_rd,v_S8,w_S8,S9_n,S9_gl,S9_md,S9_v,S9_R,z1,z2,z3]
            refine⟨⟨f2,j2+2,done2++[⟨wd ws i2,t2,true, .mk 7 0 (wd ws (j2+1)) [] []⟩],r2,c2,by simpa using hL2,by omega,X9,?_,?_,?_,by omega,rfl⟩,rdMu_lt hrd2 (j:=j2+2) (b':=false) (by simp[S1_n,S1_gl,S1_md,S1_rd,h0,h3,hn,hg,hmd,hrd,e1,S2_n,S2_gl,S2_md,S2_rd,nRv,nvR,b1,S3_n,S3_gl,S3_md,S3_rd,v_S3,h0,h3,h4,hn,hg,hmd,hrd2,hBv,y1,y2,y3,e2,S4_n,S4_gl,S4_md,S4_rd,v_S4,nRw,nwR,nvw,nwv,S5_n,S5_gl,S5_md,S5_rd,v_S5,w_S5,S6_n,S6_gl,S6_md,S6_rd,v_S6,w_S6,d1,S7_n,S7_gl,S7_md,S7_rd,v_S7,w_S7,S8_n,S8_gl,S8_md,S8_rd,v_S8,w_S8,S9_n,S9_gl,S9_md,S9_v,S9_R,z1,z2,z3];try omega) (by omega) (by omega)⟩
            · have e9:shs [.d (.string (wd ws i2)),ta,tb,tc, .d (.bool true),va,vb,vc,vd,ve]=Arg.sz ⟨wd ws i2,t2,true, .mk 7 0 (wd ws (j2+1)) [] []⟩:=by
                simp[Arg.sz, ← hT6, ← hV8,shs,Ld.sh]
              rw[rows_add, ← e9]
              have h9:=hA9.keep (S':=S9.set v [.d (dS (wd ws i)),X9, .d (dS ⟨#[]⟩), .fl [] 0, .d (dB false)]) (lo':=v+1) (hi':=S9.nx) (fun b k1 k2=>by simp[show ¬ b=v by omega]) (Nat.le_refl _) (by omega)
              simpa using h9
            · intro y k1 k2
              have z1:¬ y=v:=by omega
              have z2:¬ y=w:=by omega
              have a9:=hB9 y (.inl (by omega)) (by omega)
              simp[z2] at a9
              rw[if_neg z1,a9]
              exact ((S8_o y (by omega) k2).trans (by rw[hSr2])).trans (hrO2 y k1 k2)
            · intro y k1
              have a9:=congrFun hs9.T y
              simp at a9
              rw[a9]
              exact ((S8_t y (by omega)).trans (by rw[hSr2])).trans (hrT2 y k1)
        case' inr =>
          have d1':=d1
          simp[S1_n,S1_gl,S1_md,S1_rd,h0,h3,hn,hg,hmd,hrd,e1,S2_n,S2_gl,S2_md,S2_rd,nRv,nvR,b1,S3_n,S3_gl,S3_md,S3_rd,v_S3,h0,h3,h4,hn,hg,hmd,hrd2,hBv,y1,y2,y3,e2,S4_n,S4_gl,S4_md,S4_rd,v_S4,nRw,nwR,nvw,nwv,S5_n,S5_gl,S5_md,S5_rd,v_S5,w_S5,S6_n,S6_gl,S6_md,S6_rd,v_S6,w_S6,d1]
          refine OpT_addZ2 (e:=118) (by_:=152) (lo2:=N2) (hi2:=S6.nx) [.d (.string (wd ws i2)),ta,tb,tc, .d (.bool false), .d (.int .i64 0), .d (.int .i64 0), .d (.string ⟨#[]⟩), .nil, .nil] (by kernel_rfl) hA2 (rowsZ_len (fun x=>by simp) _) (by unfold appBound;omega) rfl rfl (by omega) (by omega) (by omega) (by omega) ?_ ?_ ?_
          · intro b k1 k2
            have z1:¬ b=w:=by omega
            simp[z1]
            exact (S6_o b (by omega) (by omega)).trans (by rw[hSr2])
          · refine .cons_d (.app (a:=[ta,tb,tc]) (mid:=S6.nx) ((hG6.new.keep fun b k1 k2=>?_).le ?_ (Nat.le_refl _)) (.cons_d (.cons_d (.cons_d (.cons_d (.cons_nil (.cons_nil .nil)))))) (by omega) (by omega))
            · simp at k1
              have z1:¬ b=w:=by omega
              simp[z1]
            · simp;omega
          · intro X9 S9 E9 hE9 hA9 hB9 hs9
            rw[hE9]
            have S9_n:=hs9.n
            have S9_gl:=hs9.gl
            have S9_md:=hs9.md
            have S9_nx:=hs9.nx
            have S9_v:=hB9 v (.inl (by omega)) (by omega)
            have S9_R:=hB9 R (.inl (by omega)) (by omega)
            simp[S1_n,S1_gl,S1_md,S1_rd,h0,h3,hn,hg,hmd,hrd,e1,S2_n,S2_gl,S2_md,S2_rd,nRv,nvR,b1,S3_n,S3_gl,S3_md,S3_rd,v_S3,h0,h3,h4,hn,hg,hmd,hrd2,hBv,y1,y2,y3,e2,S4_n,S4_gl,S4_md,S4_rd,v_S4,nRw,nwR,nvw,nwv,S5_n,S5_gl,S5_md,S5_rd,v_S5,w_S5,S6_n,S6_gl,S6_md,S6_rd,v_S6,w_S6,d1] at S9_n S9_gl S9_md S9_nx S9_v S9_R
            obtain⟨z1,z2,z3⟩:=hA9.one
            simp[S1_n,S1_gl,S1_md,S1_rd,h0,h3,hn,hg,hmd,hrd,e1,S2_n,S2_gl,S2_md,S2_rd,nRv,nvR,b1,S3_n,S3_gl,S3_md,S3_rd,v_S3,h0,h3,h4,hn,hg,hmd,hrd2,hBv,y1,y2,y3,e2,S4_n,S4_gl,S4_md,S4_rd,v_S4,nRw,nwR,nvw,nwv,S5_n,S5_gl,S5_md,S5_rd,v_S5,w_S5,S6_n,S6_gl,S6_md,S6_rd,v_S6,w_S6,d1,S9_n,S9_gl,S9_md,S9_v,S9_R,z1,z2,z3]
            refine⟨⟨f2,i3,done2++[⟨wd ws i2,t2,false,noVal⟩],r2,c2,by simpa using hL2,by omega,X9,?_,?_,?_,by omega,rfl⟩,rdMu_lt hrd2 (j:=i3) (b':=false) (by simp[S1_n,S1_gl,S1_md,S1_rd,h0,h3,hn,hg,hmd,hrd,e1,S2_n,S2_gl,S2_md,S2_rd,nRv,nvR,b1,S3_n,S3_gl,S3_md,S3_rd,v_S3,h0,h3,h4,hn,hg,hmd,hrd2,hBv,y1,y2,y3,e2,S4_n,S4_gl,S4_md,S4_rd,v_S4,nRw,nwR,nvw,nwv,S5_n,S5_gl,S5_md,S5_rd,v_S5,w_S5,S6_n,S6_gl,S6_md,S6_rd,v_S6,w_S6,d1,S9_n,S9_gl,S9_md,S9_v,S9_R,z1,z2,z3];try omega) (by omega) (by omega)⟩
            · have e9:shs [.d (.string (wd ws i2)),ta,tb,tc, .d (.bool false), .d (.int .i64 0), .d (.int .i64 0), .d (.string ⟨#[]⟩), .nil, .nil]=Arg.sz ⟨wd ws i2,t2,false,noVal⟩:=by
                simp[Arg.sz, ← hT6,shs,Ld.sh,Val.sz,skT]
              rw[rows_add, ← e9]
              have h9:=hA9.keep (S':=S9.set v [.d (dS (wd ws i)),X9, .d (dS ⟨#[]⟩), .fl [] 0, .d (dB false)]) (lo':=v+1) (hi':=S9.nx) (fun b k1 k2=>by simp[show ¬ b=v by omega]) (Nat.le_refl _) (by omega)
              simpa using h9
            · intro y k1 k2
              have z1:¬ y=v:=by omega
              have z2:¬ y=w:=by omega
              have a9:=hB9 y (.inl (by omega)) (by omega)
              simp[z2] at a9
              rw[if_neg z1,a9]
              exact ((S6_o y (by omega) k2).trans (by rw[hSr2])).trans (hrO2 y k1 k2)
            · intro y k1
              have a9:=congrFun hs9.T y
              simp at a9
              rw[a9]
              exact ((S6_t y (by omega)).trans (by rw[hSr2])).trans (hrT2 y k1)
      have e2':=e2
      simp[S1_n,S1_gl,S1_md,S1_rd,h0,h3,hn,hg,hmd,hrd,e1,S2_n,S2_gl,S2_md,S2_rd,nRv,nvR,b1,S3_n,S3_gl,S3_md,S3_rd,v_S3,h0,h3,h4,hn,hg,hmd,hrd2,hBv,y1,y2,y3,e2]
      refine CallT.x (l_must _ R ws q' false ⟨#[41]⟩ (by simp;omega) (by simp[S1_n,S1_gl,S1_md,S1_rd,h0,h3,hn,hg,hmd,hrd,e1,S2_n,S2_gl,S2_md,S2_rd,nRv,nvR,b1,S3_n,S3_gl,S3_md,S3_rd,v_S3,h0,h3,h4,hn,hg,hmd,hrd2,hBv,y1,y2,y3,e2]) hl (by omega) e2') rfl (fun r4 S4 hG4=>?_)
      have S4_n:=hG4.n
      try simp[S1_n,S1_gl,S1_md,S1_rd,h0,h3,hn,hg,hmd,hrd,e1,S2_n,S2_gl,S2_md,S2_rd,nRv,nvR,b1,S3_n,S3_gl,S3_md,S3_rd,v_S3,h0,h3,h4,hn,hg,hmd,hrd2,hBv,y1,y2,y3,e2] at S4_n
      have S4_gl:=hG4.gl
      try simp[S1_n,S1_gl,S1_md,S1_rd,h0,h3,hn,hg,hmd,hrd,e1,S2_n,S2_gl,S2_md,S2_rd,nRv,nvR,b1,S3_n,S3_gl,S3_md,S3_rd,v_S3,h0,h3,h4,hn,hg,hmd,hrd2,hBv,y1,y2,y3,e2,S4_n] at S4_gl
      have S4_md:=hG4.md
      try simp[S1_n,S1_gl,S1_md,S1_rd,h0,h3,hn,hg,hmd,hrd,e1,S2_n,S2_gl,S2_md,S2_rd,nRv,nvR,b1,S3_n,S3_gl,S3_md,S3_rd,v_S3,h0,h3,h4,hn,hg,hmd,hrd2,hBv,y1,y2,y3,e2,S4_n,S4_gl] at S4_md
      have S4_nx:=hG4.nx
      try simp[S1_n,S1_gl,S1_md,S1_rd,h0,h3,hn,hg,hmd,hrd,e1,S2_n,S2_gl,S2_md,S2_rd,nRv,nvR,b1,S3_n,S3_gl,S3_md,S3_rd,v_S3,h0,h3,h4,hn,hg,hmd,hrd2,hBv,y1,y2,y3,e2,S4_n,S4_gl,S4_md] at S4_nx
      have S4_rd:=hG4.rd
      have v_S4:=hG4.old v (by first | omega | (simp;omega)) (by omega)
      try simp[S1_n,S1_gl,S1_md,S1_rd,h0,h3,hn,hg,hmd,hrd,e1,S2_n,S2_gl,S2_md,S2_rd,nRv,nvR,b1,S3_n,S3_gl,S3_md,S3_rd,v_S3,h0,h3,h4,hn,hg,hmd,hrd2,hBv,y1,y2,y3,e2,S4_n,S4_gl,S4_md,S4_rd] at v_S4
      have S4_o:∀ y,y<N→y≠R→S4.B y=Sr.B y:=fun y k1 k2=>by
        have a1:=hG4.old y (by first | omega | (simp;omega)) k2
        have y1:¬ y=v:=by omega
        try simp[y1] at a1
        exact a1.trans (hrO2 y k1 k2)
      have S4_t:∀ y,y<N→S4.T y=Sr.T y:=fun y k1=>by
        have a1:=hG4.T y (by first | omega | (simp;omega))
        try simp at a1
        exact a1.trans (hrT2 y k1)
      rw[List.append_nil] at hL2
      subst hL2
      have hlen0:¬ done2.length=0:=fun e=>b2 (List.eq_nil_of_length_eq_zero e)
      obtain⟨bY,rfl⟩:=hA2.pos hlen0
      simp[S1_n,S1_gl,S1_md,S1_rd,h0,h3,hn,hg,hmd,hrd,e1,S2_n,S2_gl,S2_md,S2_rd,nRv,nvR,b1,S3_n,S3_gl,S3_md,S3_rd,v_S3,h0,h3,h4,hn,hg,hmd,hrd2,hBv,y1,y2,y3,e2,S4_n,S4_gl,S4_md,S4_rd,v_S4,hlen0]
      refine callt_gen (Q:=fun S=>FldI S0 Sr S R N v ws (q'+1) (wd ws i) (.sk bY done2.length 10) done2) ⟨?_,?_,?_,?_,?_,?_,?_,?_,?_⟩ (fun Z hI=>?_)
      · simp[S1_n,S1_gl,S1_md,S1_rd,h0,h3,hn,hg,hmd,hrd,e1,S2_n,S2_gl,S2_md,S2_rd,nRv,nvR,b1,S3_n,S3_gl,S3_md,S3_rd,v_S3,h0,h3,h4,hn,hg,hmd,hrd2,hBv,y1,y2,y3,e2,S4_n,S4_gl,S4_md,S4_rd,v_S4]
      · simp[S1_n,S1_gl,S1_md,S1_rd,h0,h3,hn,hg,hmd,hrd,e1,S2_n,S2_gl,S2_md,S2_rd,nRv,nvR,b1,S3_n,S3_gl,S3_md,S3_rd,v_S3,h0,h3,h4,hn,hg,hmd,hrd2,hBv,y1,y2,y3,e2,S4_n,S4_gl,S4_md,S4_rd,v_S4]
      · simp[S1_n,S1_gl,S1_md,S1_rd,h0,h3,hn,hg,hmd,hrd,e1,S2_n,S2_gl,S2_md,S2_rd,nRv,nvR,b1,S3_n,S3_gl,S3_md,S3_rd,v_S3,h0,h3,h4,hn,hg,hmd,hrd2,hBv,y1,y2,y3,e2,S4_n,S4_gl,S4_md,S4_rd,v_S4]
      · simp;omega
      · simp[S1_n,S1_gl,S1_md,S1_rd,h0,h3,hn,hg,hmd,hrd,e1,S2_n,S2_gl,S2_md,S2_rd,nRv,nvR,b1,S3_n,S3_gl,S3_md,S3_rd,v_S3,h0,h3,h4,hn,hg,hmd,hrd2,hBv,y1,y2,y3,e2,S4_n,S4_gl,S4_md,S4_rd,v_S4]
      · simp[S1_n,S1_gl,S1_md,S1_rd,h0,h3,hn,hg,hmd,hrd,e1,S2_n,S2_gl,S2_md,S2_rd,nRv,nvR,b1,S3_n,S3_gl,S3_md,S3_rd,v_S3,h0,h3,h4,hn,hg,hmd,hrd2,hBv,y1,y2,y3,e2,S4_n,S4_gl,S4_md,S4_rd,v_S4]
      · refine hA2.keep (fun b k1 k2=>?_) (Nat.le_refl _) (by simp;omega)
        have a4:=hG4.old b (by simp;omega) (by omega)
        simpa using a4
      · intro y k1 k2
        exact S4_o y k1 k2
      · intro y k1
        exact S4_t y k1
      generalize S4.nx=base
      obtain⟨lx,hlx⟩:∃ lx,lx=done2:=⟨_,rfl⟩
      obtain⟨qx,hqx⟩:∃ qx,qx=q'+1:=⟨_,rfl⟩
      obtain⟨Y,hY⟩:∃ Y,Y=SV.sk bY done2.length 10:=⟨_,rfl⟩
      rw[← hY, ← hlx, ← hqx] at hI
      rw[← hlx] at hL
      rw[← hqx] at a3 a4
    case' inr =>
      have b1':=b1
      simp[S1_n,S1_gl,S1_md,S1_rd,h0,h3,hn,hg,hmd,hrd,e1,S2_n,S2_gl,S2_md,S2_rd,nRv,nvR,b1]
      refine callt_gen (Q:=fun S=>FldI S0 Sr S R N v ws (i+1) (wd ws i) (.fl [] 0) []) ⟨?_,?_,?_,?_,?_,?_,?_,?_,?_⟩ (fun Z hI=>?_)
      · simp[S1_n,S1_gl,S1_md,S1_rd,h0,h3,hn,hg,hmd,hrd,e1,S2_n,S2_gl,S2_md,S2_rd,nRv,nvR,b1]
      · simp[S1_n,S1_gl,S1_md,S1_rd,h0,h3,hn,hg,hmd,hrd,e1,S2_n,S2_gl,S2_md,S2_rd,nRv,nvR,b1]
      · simp[S1_n,S1_gl,S1_md,S1_rd,h0,h3,hn,hg,hmd,hrd,e1,S2_n,S2_gl,S2_md,S2_rd,nRv,nvR,b1]
      · simp;omega
      · simp[S1_n,S1_gl,S1_md,S1_rd,h0,h3,hn,hg,hmd,hrd,e1,S2_n,S2_gl,S2_md,S2_rd,nRv,nvR,b1]
      · simp[S1_n,S1_gl,S1_md,S1_rd,h0,h3,hn,hg,hmd,hrd,e1,S2_n,S2_gl,S2_md,S2_rd,nRv,nvR,b1]
      · exact AccZ.nil
      · intro y k1 k2
        have z1:¬ y=v:=by omega
        simp[z1]
        exact S2_o y k1 k2
      · intro y k1
        exact S2_t y k1
      generalize S2.nx=base
      have h4:True:=trivial
      obtain⟨lx,hlx⟩:∃ lx:List Arg,lx=[]:=⟨_,rfl⟩
      obtain⟨qx,hqx⟩:∃ qx,qx=i+1:=⟨_,rfl⟩
      obtain⟨Y,hY⟩:∃ Y,Y=SV.fl [] 0:=⟨_,rfl⟩
      rw[← hY, ← hlx, ← hqx] at hI
      rw[← hlx] at hL
      rw[← hqx] at a3 a4
    all_goals
      obtain⟨I1,I2,I3,I4,I5,I6,I7,I8,I9⟩:=hI
      have ht4:=pTyp_le a4
      obtain⟨y1,y2,y3⟩:=I7.one
      refine CallT.x (l_must _ R ws qx false ⟨#[58]⟩ (by omega) (by simp[S1_n,S1_gl,S1_md,S1_rd,h0,h3,hn,hg,hmd,hrd,e1,S2_n,S2_gl,S2_md,S2_rd,nRv,nvR,I1,I2,I3,I5,I6,y1,y2,y3,h0,h3,h4]) hl (by omega) a3) rfl (fun r5 S5 hG5=>?_)
      have S5_n:=hG5.n
      try simp[S1_n,S1_gl,S1_md,S1_rd,h0,h3,hn,hg,hmd,hrd,e1,S2_n,S2_gl,S2_md,S2_rd,nRv,nvR,I1,I2,I3,I5,I6,y1,y2,y3,h0,h3,h4] at S5_n
      have S5_gl:=hG5.gl
      try simp[S1_n,S1_gl,S1_md,S1_rd,h0,h3,hn,hg,hmd,hrd,e1,S2_n,S2_gl,S2_md,S2_rd,nRv,nvR,I1,I2,I3,I5,I6,y1,y2,y3,h0,h3,h4,S5_n] at S5_gl
      have S5_md:=hG5.md
      try simp[S1_n,S1_gl,S1_md,S1_rd,h0,h3,hn,hg,hmd,hrd,e1,S2_n,S2_gl,S2_md,S2_rd,nRv,nvR,I1,I2,I3,I5,I6,y1,y2,y3,h0,h3,h4,S5_n,S5_gl] at S5_md
      have S5_nx:=hG5.nx
      try simp[S1_n,S1_gl,S1_md,S1_rd,h0,h3,hn,hg,hmd,hrd,e1,S2_n,S2_gl,S2_md,S2_rd,nRv,nvR,I1,I2,I3,I5,I6,y1,y2,y3,h0,h3,h4,S5_n,S5_gl,S5_md] at S5_nx
      have S5_rd:=hG5.rd
      have v_S5:=hG5.old v (by first | omega | (simp;omega)) (by omega)
      try simp[S1_n,S1_gl,S1_md,S1_rd,h0,h3,hn,hg,hmd,hrd,e1,S2_n,S2_gl,S2_md,S2_rd,nRv,nvR,I1,I2,I3,I5,I6,y1,y2,y3,h0,h3,h4,S5_n,S5_gl,S5_md,S5_rd] at v_S5
      have S5_o:∀ y,y<N→y≠R→S5.B y=Sr.B y:=fun y k1 k2=>by
        have a1:=hG5.old y (by first | omega | (simp;omega)) k2
        have y1:¬ y=v:=by omega
        try simp[y1] at a1
        exact a1.trans (I8 y k1 k2)
      have S5_t:∀ y,y<N→S5.T y=Sr.T y:=fun y k1=>by
        have a1:=hG5.T y (by first | omega | (simp;omega))
        try simp at a1
        exact a1.trans (I9 y k1)
      simp[S1_n,S1_gl,S1_md,S1_rd,h0,h3,hn,hg,hmd,hrd,e1,S2_n,S2_gl,S2_md,S2_rd,nRv,nvR,I1,I2,I3,I5,I6,y1,y2,y3,h0,h3,h4,S5_n,S5_gl,S5_md,S5_rd,v_S5]
      refine CallT.x (l_typ ws hl 3 _ R (qx+1) t i' a4 (by simp;omega) (by simp[S1_n,S1_gl,S1_md,S1_rd,h0,h3,hn,hg,hmd,hrd,e1,S2_n,S2_gl,S2_md,S2_rd,nRv,nvR,I1,I2,I3,I5,I6,y1,y2,y3,h0,h3,h4,S5_n,S5_gl,S5_md,S5_rd,v_S5]) (by omega)) rfl (fun r6 S6 h6=>?_)
      obtain⟨T6,q6,hT6,hG6⟩:=h6
      subst q6
      have S6_n:=hG6.n
      try simp[S1_n,S1_gl,S1_md,S1_rd,h0,h3,hn,hg,hmd,hrd,e1,S2_n,S2_gl,S2_md,S2_rd,nRv,nvR,I1,I2,I3,I5,I6,y1,y2,y3,h0,h3,h4,S5_n,S5_gl,S5_md,S5_rd,v_S5] at S6_n
      have S6_gl:=hG6.gl
      try simp[S1_n,S1_gl,S1_md,S1_rd,h0,h3,hn,hg,hmd,hrd,e1,S2_n,S2_gl,S2_md,S2_rd,nRv,nvR,I1,I2,I3,I5,I6,y1,y2,y3,h0,h3,h4,S5_n,S5_gl,S5_md,S5_rd,v_S5,S6_n] at S6_gl
      have S6_md:=hG6.md
      try simp[S1_n,S1_gl,S1_md,S1_rd,h0,h3,hn,hg,hmd,hrd,e1,S2_n,S2_gl,S2_md,S2_rd,nRv,nvR,I1,I2,I3,I5,I6,y1,y2,y3,h0,h3,h4,S5_n,S5_gl,S5_md,S5_rd,v_S5,S6_n,S6_gl] at S6_md
      have S6_nx:=hG6.nx
      try simp[S1_n,S1_gl,S1_md,S1_rd,h0,h3,hn,hg,hmd,hrd,e1,S2_n,S2_gl,S2_md,S2_rd,nRv,nvR,I1,I2,I3,I5,I6,y1,y2,y3,h0,h3,h4,S5_n,S5_gl,S5_md,S5_rd,v_S5,S6_n,S6_gl,S6_md] at S6_nx
      have S6_rd:=hG6.rd
      have v_S6:=hG6.old v (by first | omega | (simp;omega)) (by omega)
      try simp[S1_n,S1_gl,S1_md,S1_rd,h0,h3,hn,hg,hmd,hrd,e1,S2_n,S2_gl,S2_md,S2_rd,nRv,nvR,I1,I2,I3,I5,I6,y1,y2,y3,h0,h3,h4,S5_n,S5_gl,S5_md,S5_rd,v_S5,S6_n,S6_gl,S6_md,S6_rd] at v_S6
      have S6_o:∀ y,y<N→y≠R→S6.B y=Sr.B y:=fun y k1 k2=>by
        have a1:=hG6.old y (by first | omega | (simp;omega)) k2
        have y1:¬ y=v:=by omega
        try simp[y1] at a1
        exact a1.trans (S5_o y k1 k2)
      have S6_t:∀ y,y<N→S6.T y=Sr.T y:=fun y k1=>by
        have a1:=hG6.T y (by first | omega | (simp;omega))
        try simp at a1
        exact a1.trans (S5_t y k1)
      obtain⟨ta,tb,tc,rfl⟩:=three_of (by rw[← shs_len,hT6];simp:T6.length=3)
      simp[S1_n,S1_gl,S1_md,S1_rd,h0,h3,hn,hg,hmd,hrd,e1,S2_n,S2_gl,S2_md,S2_rd,nRv,nvR,I1,I2,I3,I5,I6,y1,y2,y3,h0,h3,h4,S5_n,S5_gl,S5_md,S5_rd,v_S5,S6_n,S6_gl,S6_md,S6_rd,v_S6]
      obtain⟨xY,eY,shY,atY⟩:=I7
      refine OpT_addZ2 (e:=52) (by_:=88) (lo2:=N) (hi2:=S6.nx) [.d (.string (wd ws i)),xY,ta,tb,tc] (by kernel_rfl) hA (rowsZ_len (fun x=>by simp) _) (by unfold appBound;omega) (by rw[eY];rfl) rfl (by omega) (by omega) (by omega) (by omega) ?_ ?_ ?_
      · intro b k1 k2
        have z1:¬ b=v:=by omega
        simp[z1]
        exact (S6_o b (by omega) (by omega)).trans (by rw[hSr])
      · refine .cons_d (.app (a:=[xY]) (mid:=Z.nx) ((atY.keep fun b k1 k2=>?_).le (by omega) (Nat.le_refl _)) ((hG6.new.keep fun b k1 k2=>?_).le ?_ (Nat.le_refl _)) (by omega) (by omega))
        · have z1:¬ b=v:=by omega
          have o6:=hG6.old b (by simp;omega) (by omega)
          have o5:=hG5.old b (by omega) (by omega)
          simp[z1] at o6 o5 ⊢
          exact o6.trans o5
        · simp at k1
          have z1:¬ b=v:=by omega
          simp[z1]
        · simp;omega
      · intro X9 S9 E9 hE9 hA9 hB9 hs9
        rw[hE9]
        have S9_n:=hs9.n
        have S9_gl:=hs9.gl
        have S9_md:=hs9.md
        have S9_nx:=hs9.nx
        have S9_R:=hB9 R (.inl (by omega)) (by omega)
        simp[S1_n,S1_gl,S1_md,S1_rd,h0,h3,hn,hg,hmd,hrd,e1,S2_n,S2_gl,S2_md,S2_rd,nRv,nvR,I1,I2,I3,I5,I6,y1,y2,y3,h0,h3,h4,S5_n,S5_gl,S5_md,S5_rd,v_S5,S6_n,S6_gl,S6_md,S6_rd,v_S6] at S9_n S9_gl S9_md S9_nx S9_R
        simp[S1_n,S1_gl,S1_md,S1_rd,h0,h3,hn,hg,hmd,hrd,e1,S2_n,S2_gl,S2_md,S2_rd,nRv,nvR,I1,I2,I3,I5,I6,y1,y2,y3,h0,h3,h4,S5_n,S5_gl,S5_md,S5_rd,v_S5,S6_n,S6_gl,S6_md,S6_rd,v_S6,S9_n,S9_gl,S9_md,S9_R]
        refine⟨⟨f,i',done++[⟨wd ws i,lx,t⟩],rest',hpf',by simpa using hL,rfl,X9,?_,?_,?_,by omega,rfl⟩,rdMu_lt hrd (j:=i') (b':=false) (by simp[S1_n,S1_gl,S1_md,S1_rd,h0,h3,hn,hg,hmd,hrd,e1,S2_n,S2_gl,S2_md,S2_rd,nRv,nvR,I1,I2,I3,I5,I6,y1,y2,y3,h0,h3,h4,S5_n,S5_gl,S5_md,S5_rd,v_S5,S6_n,S6_gl,S6_md,S6_rd,v_S6,S9_n,S9_gl,S9_md,S9_R]) (by omega) (by omega)⟩
        · have e9:shs [.d (.string (wd ws i)),xY,ta,tb,tc]=Fld.sz ⟨wd ws i,lx,t⟩:=by
            simp[Fld.sz, ← hT6,shs,Ld.sh,shY]
          rw[rows_add, ← e9]
          have h9:=hA9.keep (S':=S9) (lo':=u) (hi':=S9.nx) (fun b k1 k2=>rfl) (Nat.le_refl _) (by omega)
          simpa using h9
        · intro y k1 k2
          have z1:¬ y=v:=by omega
          have a9:=hB9 y (.inl (by omega)) (by omega)
          simp[z1] at a9
          rw[a9]
          exact (S6_o y (by omega) k2).trans ((by rw[hSr]:Sr.B y=_).trans (ho y k1 k2))
        · intro y k1
          have a9:=congrFun hs9.T y
          simp at a9
          rw[a9]
          exact (S6_t y (by omega)).trans ((by rw[hSr]:Sr.T y=_).trans (hT y k1))
theorem txK_len (l:List ByteArray):(txK l).length=l.length*1:=by
  induction l with
  | nil=>rfl
  | cons x r ih=>simp[txK] at ih ⊢
theorem txK_add (l:List ByteArray) (s:ByteArray):txK (l++[s])=txK l++[.d (.string s)]:=by simp[txK]
set_option maxHeartbeats 16000000 in
theorem l_def (ws:List ByteArray) (hl:ws.length≤1048576) (S0:St) (R i0 j:Nat) (d:Def) (hp:pDef ws i0=some (d,j)) (hR:R<S0.nx) (h:S0.B R=some (rdC ws i0 false)) :
    ∃ r S',LCall Tryz.prog 170 [.op R 0] S0 r S'∧∃ X,r=.ag (svs X)∧shs X=Def.sz d∧Got S0 S' R (rdC ws j false) X:=by
  have hj:=pDef_le hp
  obtain⟨hn0,hbd⟩:=pDef_some hp
  have hn1:=nameB_lt hn0
  refine LCall.ex_ (md:=[1000045,1000059,1000078]) Tryz.func170 rfl (by kernel_rfl) (by kernel_rfl) (n:=82) Tryz.ntmps170 (by simp) (by decide) rfl ?_
  simp[h]
  generalize hu:S0.nx=u at *
  have n1:¬ R=u:=by omega
  have n2:¬ u=R:=by omega
  refine CallT.x (l_next _ R ws i0 false (by simp;omega) (by simp[n1,n2,h]) hl (by omega)) rfl (fun r1 S1 h1=>?_)
  obtain⟨q1,hG1⟩:=h1
  subst q1
  obtain⟨N,hN⟩:∃ N,u=N:=⟨_,rfl⟩
  obtain⟨Sr,hSr⟩:∃ Sr,S0=Sr:=⟨_,rfl⟩
  have hrO:∀ y,y<N→y≠R→S0.B y=Sr.B y:=fun y _ _=>by rw[hSr]
  have hrT:∀ y,y<N→S0.T y=Sr.T y:=fun y _=>by rw[hSr]
  have S1_n:=hG1.n
  try simp[n1,n2,h] at S1_n
  have S1_gl:=hG1.gl
  try simp[n1,n2,h,S1_n] at S1_gl
  have S1_md:=hG1.md
  try simp[n1,n2,h,S1_n,S1_gl] at S1_md
  have S1_nx:=hG1.nx
  try simp[n1,n2,h,S1_n,S1_gl,S1_md] at S1_nx
  have S1_rd:=hG1.rd
  have u_S1:=hG1.old u (by first | omega | (simp;omega)) (by omega)
  try simp[n1,n2,h,S1_n,S1_gl,S1_md,S1_rd] at u_S1
  have S1_o:∀ y,y<N→y≠R→S1.B y=Sr.B y:=fun y k1 k2=>by
    have a1:=hG1.old y (by first | omega | (simp;omega)) k2
    have y1:¬ y=u:=by omega
    try simp[y1] at a1
    exact a1.trans (hrO y k1 k2)
  have S1_t:∀ y,y<N→S1.T y=Sr.T y:=fun y k1=>by
    have a1:=hG1.T y (by first | omega | (simp;omega))
    try simp at a1
    exact a1.trans (hrT y k1)
  simp[n1,n2,h,S1_n,S1_gl,S1_md,S1_rd,u_S1]
  refine CallT.x (l_name _ R ws (i0+1) false (by simp;omega) (by simp[n1,n2,h,S1_n,S1_gl,S1_md,S1_rd,u_S1]) hl (by omega) hn0 (by have:=nameB_size hn0;omega)) rfl (fun r2 S2 h2=>?_)
  obtain⟨q2,hG2⟩:=h2
  subst q2
  have S2_n:=hG2.n
  try simp[n1,n2,h,S1_n,S1_gl,S1_md,S1_rd,u_S1] at S2_n
  have S2_gl:=hG2.gl
  try simp[n1,n2,h,S1_n,S1_gl,S1_md,S1_rd,u_S1,S2_n] at S2_gl
  have S2_md:=hG2.md
  try simp[n1,n2,h,S1_n,S1_gl,S1_md,S1_rd,u_S1,S2_n,S2_gl] at S2_md
  have S2_nx:=hG2.nx
  try simp[n1,n2,h,S1_n,S1_gl,S1_md,S1_rd,u_S1,S2_n,S2_gl,S2_md] at S2_nx
  have S2_rd:=hG2.rd
  have u_S2:=hG2.old u (by first | omega | (simp;omega)) (by omega)
  try simp[n1,n2,h,S1_n,S1_gl,S1_md,S1_rd,u_S1,S2_n,S2_gl,S2_md,S2_rd] at u_S2
  have S2_o:∀ y,y<N→y≠R→S2.B y=Sr.B y:=fun y k1 k2=>by
    have a1:=hG2.old y (by first | omega | (simp;omega)) k2
    have y1:¬ y=u:=by omega
    try simp[y1] at a1
    exact a1.trans (S1_o y k1 k2)
  have S2_t:∀ y,y<N→S2.T y=Sr.T y:=fun y k1=>by
    have a1:=hG2.T y (by first | omega | (simp;omega))
    try simp at a1
    exact a1.trans (S1_t y k1)
  simp[n1,n2,h,S1_n,S1_gl,S1_md,S1_rd,u_S1,S2_n,S2_gl,S2_md,S2_rd,u_S2]
  obtain⟨v,hv⟩:∃ v,S1.nx+3=v:=⟨_,rfl⟩
  have n3:¬ R=v:=by omega
  have n4:¬ v=R:=by omega
  have n5:¬ u=v:=by omega
  have n6:¬ v=u:=by omega
  rw[hv]
  rcases pBody_some hbd with ⟨e1,e2,l,q,e3,rfl,rfl⟩ | ⟨e1,e2,l,q,e3,rfl,rfl⟩ | ⟨e1,e2,l,q,e3,rfl,rfl⟩ | ⟨e1,e2,e4,l,e3,rfl⟩
  · skip
    have hq:=pFlds_le e3
    simp[n1,n2,h,S1_n,S1_gl,S1_md,S1_rd,u_S1,S2_n,S2_gl,S2_md,S2_rd,u_S2,n3,n4,n5,n6,e1,typeS,inputS,enumS,unionS]
    refine CallT.x (l_fields ws hl _ R (i0+2) q l e2 e3 (by simp;omega) (by simp[n1,n2,h,S1_n,S1_gl,S1_md,S1_rd,u_S1,S2_n,S2_gl,S2_md,S2_rd,u_S2,n3,n4,n5,n6,e1,typeS,inputS,enumS,unionS])) rfl (fun r3 S3 h3=>?_)
    obtain⟨x,q3,hx,hG3⟩:=h3
    subst q3
    obtain⟨x1,x2,x3⟩:=z_one hx
    have S3_n:=hG3.n
    try simp[n1,n2,h,S1_n,S1_gl,S1_md,S1_rd,u_S1,S2_n,S2_gl,S2_md,S2_rd,u_S2,n3,n4,n5,n6,e1,typeS,inputS,enumS,unionS] at S3_n
    have S3_gl:=hG3.gl
    try simp[n1,n2,h,S1_n,S1_gl,S1_md,S1_rd,u_S1,S2_n,S2_gl,S2_md,S2_rd,u_S2,n3,n4,n5,n6,e1,typeS,inputS,enumS,unionS,S3_n] at S3_gl
    have S3_md:=hG3.md
    try simp[n1,n2,h,S1_n,S1_gl,S1_md,S1_rd,u_S1,S2_n,S2_gl,S2_md,S2_rd,u_S2,n3,n4,n5,n6,e1,typeS,inputS,enumS,unionS,S3_n,S3_gl] at S3_md
    have S3_nx:=hG3.nx
    try simp[n1,n2,h,S1_n,S1_gl,S1_md,S1_rd,u_S1,S2_n,S2_gl,S2_md,S2_rd,u_S2,n3,n4,n5,n6,e1,typeS,inputS,enumS,unionS,S3_n,S3_gl,S3_md] at S3_nx
    have S3_rd:=hG3.rd
    have u_S3:=hG3.old u (by first | omega | (simp;omega)) (by omega)
    try simp[n1,n2,h,S1_n,S1_gl,S1_md,S1_rd,u_S1,S2_n,S2_gl,S2_md,S2_rd,u_S2,n3,n4,n5,n6,e1,typeS,inputS,enumS,unionS,S3_n,S3_gl,S3_md,S3_rd] at u_S3
    have v_S3:=hG3.old v (by first | omega | (simp;omega)) (by omega)
    try simp[n1,n2,h,S1_n,S1_gl,S1_md,S1_rd,u_S1,S2_n,S2_gl,S2_md,S2_rd,u_S2,n3,n4,n5,n6,e1,typeS,inputS,enumS,unionS,S3_n,S3_gl,S3_md,S3_rd,u_S3] at v_S3
    have S3_o:∀ y,y<N→y≠R→S3.B y=Sr.B y:=fun y k1 k2=>by
      have a1:=hG3.old y (by first | omega | (simp;omega)) k2
      have y1:¬ y=u:=by omega
      have y2:¬ y=v:=by omega
      try simp[y1,y2] at a1
      exact a1.trans (S2_o y k1 k2)
    have S3_t:∀ y,y<N→S3.T y=Sr.T y:=fun y k1=>by
      have a1:=hG3.T y (by first | omega | (simp;omega))
      try simp at a1
      exact a1.trans (S2_t y k1)
    simp[n1,n2,h,S1_n,S1_gl,S1_md,S1_rd,u_S1,S2_n,S2_gl,S2_md,S2_rd,u_S2,n3,n4,n5,n6,e1,typeS,inputS,enumS,unionS,S3_n,S3_gl,S3_md,S3_rd,u_S3,v_S3,x1,x2,x3]
    refine⟨[.d (.string (wd ws (i0+1))), .d (.int .i64 1),x, .nil],rfl,by simp[shs,Ld.sh,hx,Def.sz,skT],rfl,rfl,rfl,by simp;omega,by simp[n1,n2,h,S1_n,S1_gl,S1_md,S1_rd,u_S1,S2_n,S2_gl,S2_md,S2_rd,u_S2,n3,n4,n5,n6,e1,typeS,inputS,enumS,unionS,S3_n,S3_gl,S3_md,S3_rd,u_S3,v_S3,x1,x2,x3],?_,?_,?_⟩
    · intro y k1 k2
      have z1:¬ y=u:=by omega
      have z2:¬ y=v:=by omega
      simp[z1,z2]
      exact (S3_o y (by omega) k2).trans (by rw[hSr])
    · intro y k1
      exact (S3_t y (by omega)).trans (by rw[hSr])
    · refine .cons_d (.cons_d (.app (a:=[x]) (mid:=S3.nx) ((hG3.new.keep fun b k1 k2=>?_).le ?_ (Nat.le_refl _)) (.cons_nil .nil) (by omega) (by simp)))
      · simp at k1
        have z1:¬ b=u:=by omega
        have z2:¬ b=v:=by omega
        simp[z1,z2]
      · simp;omega
  · skip
    have hq:=pFlds_le e3
    simp[n1,n2,h,S1_n,S1_gl,S1_md,S1_rd,u_S1,S2_n,S2_gl,S2_md,S2_rd,u_S2,n3,n4,n5,n6,e1,typeS,inputS,enumS,unionS]
    refine CallT.x (l_fields ws hl _ R (i0+2) q l e2 e3 (by simp;omega) (by simp[n1,n2,h,S1_n,S1_gl,S1_md,S1_rd,u_S1,S2_n,S2_gl,S2_md,S2_rd,u_S2,n3,n4,n5,n6,e1,typeS,inputS,enumS,unionS])) rfl (fun r3 S3 h3=>?_)
    obtain⟨x,q3,hx,hG3⟩:=h3
    subst q3
    obtain⟨x1,x2,x3⟩:=z_one hx
    have S3_n:=hG3.n
    try simp[n1,n2,h,S1_n,S1_gl,S1_md,S1_rd,u_S1,S2_n,S2_gl,S2_md,S2_rd,u_S2,n3,n4,n5,n6,e1,typeS,inputS,enumS,unionS] at S3_n
    have S3_gl:=hG3.gl
    try simp[n1,n2,h,S1_n,S1_gl,S1_md,S1_rd,u_S1,S2_n,S2_gl,S2_md,S2_rd,u_S2,n3,n4,n5,n6,e1,typeS,inputS,enumS,unionS,S3_n] at S3_gl
    have S3_md:=hG3.md
    try simp[n1,n2,h,S1_n,S1_gl,S1_md,S1_rd,u_S1,S2_n,S2_gl,S2_md,S2_rd,u_S2,n3,n4,n5,n6,e1,typeS,inputS,enumS,unionS,S3_n,S3_gl] at S3_md
    have S3_nx:=hG3.nx
    try simp[n1,n2,h,S1_n,S1_gl,S1_md,S1_rd,u_S1,S2_n,S2_gl,S2_md,S2_rd,u_S2,n3,n4,n5,n6,e1,typeS,inputS,enumS,unionS,S3_n,S3_gl,S3_md] at S3_nx
    have S3_rd:=hG3.rd
    have u_S3:=hG3.old u (by first | omega | (simp;omega)) (by omega)
    try simp[n1,n2,h,S1_n,S1_gl,S1_md,S1_rd,u_S1,S2_n,S2_gl,S2_md,S2_rd,u_S2,n3,n4,n5,n6,e1,typeS,inputS,enumS,unionS,S3_n,S3_gl,S3_md,S3_rd] at u_S3
    have v_S3:=hG3.old v (by first | omega | (simp;omega)) (by omega)
    try simp[n1,n2,h,S1_n,S1_gl,S1_md,S1_rd,u_S1,S2_n,S2_gl,S2_md,S2_rd,u_S2,n3,n4,n5,n6,e1,typeS,inputS,enumS,unionS,S3_n,S3_gl,S3_md,S3_rd,u_S3] at v_S3
    have S3_o:∀ y,y<N→y≠R→S3.B y=Sr.B y:=fun y k1 k2=>by
      have a1:=hG3.old y (by first | omega | (simp;omega)) k2
      have y1:¬ y=u:=by omega
      have y2:¬ y=v:=by omega
      try simp[y1,y2] at a1
      exact a1.trans (S2_o y k1 k2)
    have S3_t:∀ y,y<N→S3.T y=Sr.T y:=fun y k1=>by
      have a1:=hG3.T y (by first | omega | (simp;omega))
      try simp at a1
      exact a1.trans (S2_t y k1)
    simp[n1,n2,h,S1_n,S1_gl,S1_md,S1_rd,u_S1,S2_n,S2_gl,S2_md,S2_rd,u_S2,n3,n4,n5,n6,e1,typeS,inputS,enumS,unionS,S3_n,S3_gl,S3_md,S3_rd,u_S3,v_S3,x1,x2,x3]
    refine⟨[.d (.string (wd ws (i0+1))), .d (.int .i64 3),x, .nil],rfl,by simp[shs,Ld.sh,hx,Def.sz,skT],rfl,rfl,rfl,by simp;omega,by simp[n1,n2,h,S1_n,S1_gl,S1_md,S1_rd,u_S1,S2_n,S2_gl,S2_md,S2_rd,u_S2,n3,n4,n5,n6,e1,typeS,inputS,enumS,unionS,S3_n,S3_gl,S3_md,S3_rd,u_S3,v_S3,x1,x2,x3],?_,?_,?_⟩
    · intro y k1 k2
      have z1:¬ y=u:=by omega
      have z2:¬ y=v:=by omega
      simp[z1,z2]
      exact (S3_o y (by omega) k2).trans (by rw[hSr])
    · intro y k1
      exact (S3_t y (by omega)).trans (by rw[hSr])
    · refine .cons_d (.cons_d (.app (a:=[x]) (mid:=S3.nx) ((hG3.new.keep fun b k1 k2=>?_).le ?_ (Nat.le_refl _)) (.cons_nil .nil) (by omega) (by simp)))
      · simp at k1
        have z1:¬ b=u:=by omega
        have z2:¬ b=v:=by omega
        simp[z1,z2]
      · simp;omega
  · skip
    have hq:=pWds_le e3
    simp[n1,n2,h,S1_n,S1_gl,S1_md,S1_rd,u_S1,S2_n,S2_gl,S2_md,S2_rd,u_S2,n3,n4,n5,n6,e1,typeS,inputS,enumS,unionS]
    refine CallT.x (l_must _ R ws (i0+2) false ⟨#[123]⟩ (by simp;omega) (by simp[n1,n2,h,S1_n,S1_gl,S1_md,S1_rd,u_S1,S2_n,S2_gl,S2_md,S2_rd,u_S2,n3,n4,n5,n6,e1,typeS,inputS,enumS,unionS]) hl (by omega) e2) rfl (fun r3 S3 hG3=>?_)
    have S3_n:=hG3.n
    try simp[n1,n2,h,S1_n,S1_gl,S1_md,S1_rd,u_S1,S2_n,S2_gl,S2_md,S2_rd,u_S2,n3,n4,n5,n6,e1,typeS,inputS,enumS,unionS] at S3_n
    have S3_gl:=hG3.gl
    try simp[n1,n2,h,S1_n,S1_gl,S1_md,S1_rd,u_S1,S2_n,S2_gl,S2_md,S2_rd,u_S2,n3,n4,n5,n6,e1,typeS,inputS,enumS,unionS,S3_n] at S3_gl
    have S3_md:=hG3.md
    try simp[n1,n2,h,S1_n,S1_gl,S1_md,S1_rd,u_S1,S2_n,S2_gl,S2_md,S2_rd,u_S2,n3,n4,n5,n6,e1,typeS,inputS,enumS,unionS,S3_n,S3_gl] at S3_md
    have S3_nx:=hG3.nx
    try simp[n1,n2,h,S1_n,S1_gl,S1_md,S1_rd,u_S1,S2_n,S2_gl,S2_md,S2_rd,u_S2,n3,n4,n5,n6,e1,typeS,inputS,enumS,unionS,S3_n,S3_gl,S3_md] at S3_nx
    have S3_rd:=hG3.rd
    have u_S3:=hG3.old u (by first | omega | (simp;omega)) (by omega)
    try simp[n1,n2,h,S1_n,S1_gl,S1_md,S1_rd,u_S1,S2_n,S2_gl,S2_md,S2_rd,u_S2,n3,n4,n5,n6,e1,typeS,inputS,enumS,unionS,S3_n,S3_gl,S3_md,S3_rd] at u_S3
    have v_S3:=hG3.old v (by first | omega | (simp;omega)) (by omega)
    try simp[n1,n2,h,S1_n,S1_gl,S1_md,S1_rd,u_S1,S2_n,S2_gl,S2_md,S2_rd,u_S2,n3,n4,n5,n6,e1,typeS,inputS,enumS,unionS,S3_n,S3_gl,S3_md,S3_rd,u_S3] at v_S3
    have S3_o:∀ y,y<N→y≠R→S3.B y=Sr.B y:=fun y k1 k2=>by
      have a1:=hG3.old y (by first | omega | (simp;omega)) k2
      have y1:¬ y=u:=by omega
      have y2:¬ y=v:=by omega
      try simp[y1,y2] at a1
      exact a1.trans (S2_o y k1 k2)
    have S3_t:∀ y,y<N→S3.T y=Sr.T y:=fun y k1=>by
      have a1:=hG3.T y (by first | omega | (simp;omega))
      try simp at a1
      exact a1.trans (S2_t y k1)
    simp[n1,n2,h,S1_n,S1_gl,S1_md,S1_rd,u_S1,S2_n,S2_gl,S2_md,S2_rd,u_S2,n3,n4,n5,n6,e1,typeS,inputS,enumS,unionS,S3_n,S3_gl,S3_md,S3_rd,u_S3,v_S3]
    refine LoopT.round (fun E S=>∃ (f:Nat) (i:Nat) (done:List ByteArray) (rest:List ByteArray) (Y:SV),(pWds ws f i=some (rest,q))∧(done++rest=l)∧(S.B R=some (rdC ws i false))∧(AccZ S (v+1) S.nx 1 done.length (txK done) Y)∧(∀ y,y<N→y≠R→S.B y=Sr.B y)∧(∀ y,y<N→S.T y=Sr.T y)∧(v+1≤S.nx)∧(S.B u=some [.d (dS ⟨#[]⟩), .d (dI 0), .fl [] 0, .fl [] 0])∧(S.B v=some [.d (dS (wd ws (i0+1))), .d (dI 2), .fl [] 0,Y])∧E 0=some (.op R 0)∧E 2=some (.op u 0)∧E 4=some (.op v 0)) (rdMu R ws.length) ⟨ws.length,i0+3,[],l, .fl [] 0,by simp[n1,n2,h,S1_n,S1_gl,S1_md,S1_rd,u_S1,S2_n,S2_gl,S2_md,S2_rd,u_S2,n3,n4,n5,n6,e1,typeS,inputS,enumS,unionS,S3_n,S3_gl,S3_md,S3_rd,u_S3,v_S3];exact⟨e3,AccZ.nil,S3_o,S3_t,by omega⟩⟩ ?_
    rintro E S hk ⟨f,i,done,rest,Y,hpf,hL,hrd,hA,hrO2,hrT2,hnx,hBu,hBv,h0,h2,h4⟩
    have hn:S.n=82:=by first | (simpa using hk.n)|(have hh:=hk.n;simp[n1,n2,h,S1_n,S1_gl,S1_md,S1_rd,u_S1,S2_n,S2_gl,S2_md,S2_rd,u_S2,n3,n4,n5,n6,e1,typeS,inputS,enumS,unionS,S3_n,S3_gl,S3_md,S3_rd,u_S3,v_S3] at hh;exact hh)
    have hg:S.gl=S0.gl:=by first | (simpa using hk.gl)|(have hh:=hk.gl;simp[n1,n2,h,S1_n,S1_gl,S1_md,S1_rd,u_S1,S2_n,S2_gl,S2_md,S2_rd,u_S2,n3,n4,n5,n6,e1,typeS,inputS,enumS,unionS,S3_n,S3_gl,S3_md,S3_rd,u_S3,v_S3] at hh;exact hh)
    have hmd:S.md=[1000045,1000059,1000078]:=by first | (simpa using hk.md)|(have hh:=hk.md;simp[n1,n2,h,S1_n,S1_gl,S1_md,S1_rd,u_S1,S2_n,S2_gl,S2_md,S2_rd,u_S2,n3,n4,n5,n6,e1,typeS,inputS,enumS,unionS,S3_n,S3_gl,S3_md,S3_rd,u_S3,v_S3] at hh;exact hh)
    simp[n1,n2,h,S1_n,S1_gl,S1_md,S1_rd,u_S1,S2_n,S2_gl,S2_md,S2_rd,u_S2,n3,n4,n5,n6,e1,typeS,inputS,enumS,unionS,S3_n,S3_gl,S3_md,S3_rd,u_S3,v_S3,h0,h2,h4,hn,hg,hmd]
    obtain⟨f,rfl⟩:∃ g,f=g+1:=by
      cases f with
      | zero=>cases hpf
      | succ g=>exact⟨g,rfl⟩
    have hle:=pWds_le hpf
    have hdl:done.length≤ws.length:=by
      have:=pWds_len e3
      rw[← hL] at this
      simp at this
      omega
    obtain⟨y1,y2,y3⟩:=hA.one
    refine CallT.l (l_peek (ws:=ws) (i:=i) (bad:=false) (by simp[n1,n2,h,S1_n,S1_gl,S1_md,S1_rd,u_S1,S2_n,S2_gl,S2_md,S2_rd,u_S2,n3,n4,n5,n6,e1,typeS,inputS,enumS,unionS,S3_n,S3_gl,S3_md,S3_rd,u_S3,v_S3,h0,h2,h4,hn,hg,hmd,hrd,hBu,hBv,y1,y2,y3]) hl (by omega)) rfl ?_
    rcases pWds_some hpf with ⟨e4,rfl,rfl⟩ | ⟨e4,e5,r',hpf',rfl⟩
    · have e4':=e4
      simp[n1,n2,h,S1_n,S1_gl,S1_md,S1_rd,u_S1,S2_n,S2_gl,S2_md,S2_rd,u_S2,n3,n4,n5,n6,e1,typeS,inputS,enumS,unionS,S3_n,S3_gl,S3_md,S3_rd,u_S3,v_S3,h0,h2,h4,hn,hg,hmd,hrd,hBu,hBv,y1,y2,y3,e4]
      refine CallT.x (l_must _ R ws q false ⟨#[125]⟩ (by simp;omega) (by simp[n1,n2,h,S1_n,S1_gl,S1_md,S1_rd,u_S1,S2_n,S2_gl,S2_md,S2_rd,u_S2,n3,n4,n5,n6,e1,typeS,inputS,enumS,unionS,S3_n,S3_gl,S3_md,S3_rd,u_S3,v_S3,h0,h2,h4,hn,hg,hmd,hrd,hBu,hBv,y1,y2,y3,e4]) hl (by omega) e4') rfl (fun r5 S5 hG5=>?_)
      have S5_n:=hG5.n
      try simp[n1,n2,h,S1_n,S1_gl,S1_md,S1_rd,u_S1,S2_n,S2_gl,S2_md,S2_rd,u_S2,n3,n4,n5,n6,e1,typeS,inputS,enumS,unionS,S3_n,S3_gl,S3_md,S3_rd,u_S3,v_S3,h0,h2,h4,hn,hg,hmd,hrd,hBu,hBv,y1,y2,y3,e4] at S5_n
      have S5_gl:=hG5.gl
      try simp[n1,n2,h,S1_n,S1_gl,S1_md,S1_rd,u_S1,S2_n,S2_gl,S2_md,S2_rd,u_S2,n3,n4,n5,n6,e1,typeS,inputS,enumS,unionS,S3_n,S3_gl,S3_md,S3_rd,u_S3,v_S3,h0,h2,h4,hn,hg,hmd,hrd,hBu,hBv,y1,y2,y3,e4,S5_n] at S5_gl
      have S5_md:=hG5.md
      try simp[n1,n2,h,S1_n,S1_gl,S1_md,S1_rd,u_S1,S2_n,S2_gl,S2_md,S2_rd,u_S2,n3,n4,n5,n6,e1,typeS,inputS,enumS,unionS,S3_n,S3_gl,S3_md,S3_rd,u_S3,v_S3,h0,h2,h4,hn,hg,hmd,hrd,hBu,hBv,y1,y2,y3,e4,S5_n,S5_gl] at S5_md
      have S5_nx:=hG5.nx
      try simp[n1,n2,h,S1_n,S1_gl,S1_md,S1_rd,u_S1,S2_n,S2_gl,S2_md,S2_rd,u_S2,n3,n4,n5,n6,e1,typeS,inputS,enumS,unionS,S3_n,S3_gl,S3_md,S3_rd,u_S3,v_S3,h0,h2,h4,hn,hg,hmd,hrd,hBu,hBv,y1,y2,y3,e4,S5_n,S5_gl,S5_md] at S5_nx
      have S5_rd:=hG5.rd
      have u_S5:=hG5.old u (by first | omega | (simp;omega)) (by omega)
      try simp[n1,n2,h,S1_n,S1_gl,S1_md,S1_rd,u_S1,S2_n,S2_gl,S2_md,S2_rd,u_S2,n3,n4,n5,n6,e1,typeS,inputS,enumS,unionS,S3_n,S3_gl,S3_md,S3_rd,u_S3,v_S3,h0,h2,h4,hn,hg,hmd,hrd,hBu,hBv,y1,y2,y3,e4,S5_n,S5_gl,S5_md,S5_rd] at u_S5
      have v_S5:=hG5.old v (by first | omega | (simp;omega)) (by omega)
      try simp[n1,n2,h,S1_n,S1_gl,S1_md,S1_rd,u_S1,S2_n,S2_gl,S2_md,S2_rd,u_S2,n3,n4,n5,n6,e1,typeS,inputS,enumS,unionS,S3_n,S3_gl,S3_md,S3_rd,u_S3,v_S3,h0,h2,h4,hn,hg,hmd,hrd,hBu,hBv,y1,y2,y3,e4,S5_n,S5_gl,S5_md,S5_rd,u_S5] at v_S5
      have S5_o:∀ y,y<N→y≠R→S5.B y=Sr.B y:=fun y k1 k2=>by
        have a1:=hG5.old y (by first | omega | (simp;omega)) k2
        have y1:¬ y=u:=by omega
        have y2:¬ y=v:=by omega
        try simp[y1,y2] at a1
        exact a1.trans (hrO2 y k1 k2)
      have S5_t:∀ y,y<N→S5.T y=Sr.T y:=fun y k1=>by
        have a1:=hG5.T y (by first | omega | (simp;omega))
        try simp at a1
        exact a1.trans (hrT2 y k1)
      simp[n1,n2,h,S1_n,S1_gl,S1_md,S1_rd,u_S1,S2_n,S2_gl,S2_md,S2_rd,u_S2,n3,n4,n5,n6,e1,typeS,inputS,enumS,unionS,S3_n,S3_gl,S3_md,S3_rd,u_S3,v_S3,h0,h2,h4,hn,hg,hmd,hrd,hBu,hBv,y1,y2,y3,e4,S5_n,S5_gl,S5_md,S5_rd,u_S5,v_S5]
      obtain⟨x,rfl,x2,x3⟩:=hA
      rw[List.append_nil] at hL
      subst hL
      refine⟨[.d (.string (wd ws (i0+1))), .d (.int .i64 2), .nil,x],rfl,by simp[shs,Ld.sh,x2,Def.sz,skT],rfl,rfl,rfl,by simp;omega,by simp[n1,n2,h,S1_n,S1_gl,S1_md,S1_rd,u_S1,S2_n,S2_gl,S2_md,S2_rd,u_S2,n3,n4,n5,n6,e1,typeS,inputS,enumS,unionS,S3_n,S3_gl,S3_md,S3_rd,u_S3,v_S3,h0,h2,h4,hn,hg,hmd,hrd,hBu,hBv,y1,y2,y3,e4,S5_n,S5_gl,S5_md,S5_rd,u_S5,v_S5],?_,?_,?_⟩
      · intro y k1 k2
        have z1:¬ y=u:=by omega
        have z2:¬ y=v:=by omega
        simp[z1,z2]
        exact (S5_o y (by omega) k2).trans (by rw[hSr])
      · intro y k1
        exact (S5_t y (by omega)).trans (by rw[hSr])
      · refine .cons_d (.cons_d (.cons_nil ((x3.keep fun b k1 k2=>?_).le (by omega) (by simp;omega))))
        have z1:¬ b=u:=by omega
        have o5:=hG5.old b (by simp;omega) (by omega)
        simp[z1] at o5 ⊢
        exact o5
    · skip
      simp[n1,n2,h,S1_n,S1_gl,S1_md,S1_rd,u_S1,S2_n,S2_gl,S2_md,S2_rd,u_S2,n3,n4,n5,n6,e1,typeS,inputS,enumS,unionS,S3_n,S3_gl,S3_md,S3_rd,u_S3,v_S3,h0,h2,h4,hn,hg,hmd,hrd,hBu,hBv,y1,y2,y3,e4]
      refine⟨DrawT.mk (by kernel_rfl),?_⟩
      obtain⟨r4,S4,hL4,q4,hG4⟩:=l_name ((S.adv 10).adv 8) R ws i false (by simp;omega) (by simp[n1,n2,h,S1_n,S1_gl,S1_md,S1_rd,u_S1,S2_n,S2_gl,S2_md,S2_rd,u_S2,n3,n4,n5,n6,e1,typeS,inputS,enumS,unionS,S3_n,S3_gl,S3_md,S3_rd,u_S3,v_S3,h0,h2,h4,hn,hg,hmd,hrd,hBu,hBv,y1,y2,y3,e4]) hl (by omega) e5 (by have:=nameB_size e5;omega)
      subst q4
      have S4_n:=hG4.n
      try simp[n1,n2,h,S1_n,S1_gl,S1_md,S1_rd,u_S1,S2_n,S2_gl,S2_md,S2_rd,u_S2,n3,n4,n5,n6,e1,typeS,inputS,enumS,unionS,S3_n,S3_gl,S3_md,S3_rd,u_S3,v_S3,h0,h2,h4,hn,hg,hmd,hrd,hBu,hBv,y1,y2,y3,e4] at S4_n
      have S4_gl:=hG4.gl
      try simp[n1,n2,h,S1_n,S1_gl,S1_md,S1_rd,u_S1,S2_n,S2_gl,S2_md,S2_rd,u_S2,n3,n4,n5,n6,e1,typeS,inputS,enumS,unionS,S3_n,S3_gl,S3_md,S3_rd,u_S3,v_S3,h0,h2,h4,hn,hg,hmd,hrd,hBu,hBv,y1,y2,y3,e4,S4_n] at S4_gl
      have S4_md:=hG4.md
      try simp[n1,n2,h,S1_n,S1_gl,S1_md,S1_rd,u_S1,S2_n,S2_gl,S2_md,S2_rd,u_S2,n3,n4,n5,n6,e1,typeS,inputS,enumS,unionS,S3_n,S3_gl,S3_md,S3_rd,u_S3,v_S3,h0,h2,h4,hn,hg,hmd,hrd,hBu,hBv,y1,y2,y3,e4,S4_n,S4_gl] at S4_md
      have S4_nx:=hG4.nx
      try simp[n1,n2,h,S1_n,S1_gl,S1_md,S1_rd,u_S1,S2_n,S2_gl,S2_md,S2_rd,u_S2,n3,n4,n5,n6,e1,typeS,inputS,enumS,unionS,S3_n,S3_gl,S3_md,S3_rd,u_S3,v_S3,h0,h2,h4,hn,hg,hmd,hrd,hBu,hBv,y1,y2,y3,e4,S4_n,S4_gl,S4_md] at S4_nx
      have S4_rd:=hG4.rd
      have u_S4:=hG4.old u (by first | omega | (simp;omega)) (by omega)
      try simp[n1,n2,h,S1_n,S1_gl,S1_md,S1_rd,u_S1,S2_n,S2_gl,S2_md,S2_rd,u_S2,n3,n4,n5,n6,e1,typeS,inputS,enumS,unionS,S3_n,S3_gl,S3_md,S3_rd,u_S3,v_S3,h0,h2,h4,hn,hg,hmd,hrd,hBu,hBv,y1,y2,y3,e4,S4_n,S4_gl,S4_md,S4_rd] at u_S4
      have v_S4:=hG4.old v (by first | omega | (simp;omega)) (by omega)
      try simp[n1,n2,h,S1_n,S1_gl,S1_md,S1_rd,u_S1,S2_n,S2_gl,S2_md,S2_rd,u_S2,n3,n4,n5,n6,e1,typeS,inputS,enumS,unionS,S3_n,S3_gl,S3_md,S3_rd,u_S3,v_S3,h0,h2,h4,hn,hg,hmd,hrd,hBu,hBv,y1,y2,y3,e4,S4_n,S4_gl,S4_md,S4_rd,u_S4] at v_S4
      have S4_o:∀ y,y<N→y≠R→S4.B y=Sr.B y:=fun y k1 k2=>by
        have a1:=hG4.old y (by first | omega | (simp;omega)) k2
        have y1:¬ y=u:=by omega
        have y2:¬ y=v:=by omega
        try simp[y1,y2] at a1
        exact a1.trans (hrO2 y k1 k2)
      have S4_t:∀ y,y<N→S4.T y=Sr.T y:=fun y k1=>by
        have a1:=hG4.T y (by first | omega | (simp;omega))
        try simp at a1
        exact a1.trans (hrT2 y k1)
      refine CallT.calm [((1,4),3)] (by kernel_rfl) (by kernel_rfl) hL4 (by simp[n1,n2,h,S1_n,S1_gl,S1_md,S1_rd,u_S1,S2_n,S2_gl,S2_md,S2_rd,u_S2,n3,n4,n5,n6,e1,typeS,inputS,enumS,unionS,S3_n,S3_gl,S3_md,S3_rd,u_S3,v_S3,h0,h2,h4,hn,hg,hmd,hrd,hBu,hBv,y1,y2,y3,e4,S4_n,S4_gl,S4_md,S4_rd,u_S4,v_S4,Eh.e,refOf]) ?_
      simp[n1,n2,h,S1_n,S1_gl,S1_md,S1_rd,u_S1,S2_n,S2_gl,S2_md,S2_rd,u_S2,n3,n4,n5,n6,e1,typeS,inputS,enumS,unionS,S3_n,S3_gl,S3_md,S3_rd,u_S3,v_S3,h0,h2,h4,hn,hg,hmd,hrd,hBu,hBv,y1,y2,y3,e4,S4_n,S4_gl,S4_md,S4_rd,u_S4,v_S4]
      refine OpT_addZ2 (e:=9) (by_:=16) (lo2:=S.nx) (hi2:=S.nx) [.d (.string (wd ws i))] (by kernel_rfl) hA (txK_len _) (by unfold appBound;omega) rfl rfl (by omega) (by omega) (by omega) (by omega) ?_ (.cons_d .nil) ?_
      · intro b k1 k2
        have o4:=hG4.old b (by simp;omega) (by omega)
        simpa using o4
      · intro X9 S9 E9 hE9 hA9 hB9 hs9
        rw[hE9]
        have S9_n:=hs9.n
        have S9_gl:=hs9.gl
        have S9_md:=hs9.md
        have S9_nx:=hs9.nx
        have S9_R:=hB9 R (.inl (by omega)) (by omega)
        have S9_u:=hB9 u (.inl (by omega)) (by omega)
        have S9_v:=hB9 v (.inl (by omega)) (by omega)
        simp[n1,n2,h,S1_n,S1_gl,S1_md,S1_rd,u_S1,S2_n,S2_gl,S2_md,S2_rd,u_S2,n3,n4,n5,n6,e1,typeS,inputS,enumS,unionS,S3_n,S3_gl,S3_md,S3_rd,u_S3,v_S3,h0,h2,h4,hn,hg,hmd,hrd,hBu,hBv,y1,y2,y3,e4,S4_n,S4_gl,S4_md,S4_rd,u_S4,v_S4] at S9_n S9_gl S9_md S9_nx S9_R S9_u S9_v
        obtain⟨z1,z2,z3⟩:=hA9.one
        simp[n1,n2,h,S1_n,S1_gl,S1_md,S1_rd,u_S1,S2_n,S2_gl,S2_md,S2_rd,u_S2,n3,n4,n5,n6,e1,typeS,inputS,enumS,unionS,S3_n,S3_gl,S3_md,S3_rd,u_S3,v_S3,h0,h2,h4,hn,hg,hmd,hrd,hBu,hBv,y1,y2,y3,e4,S4_n,S4_gl,S4_md,S4_rd,u_S4,v_S4,S9_n,S9_gl,S9_md,S9_R,S9_u,S9_v,z1,z2,z3]
        refine⟨⟨f,i+1,done++[wd ws i],r',hpf',by simpa using hL,by simp,X9,?_,?_,?_,by omega,rfl⟩,rdMu_lt hrd (j:=i+1) (b':=false) (by simp[n1,n2,h,S1_n,S1_gl,S1_md,S1_rd,u_S1,S2_n,S2_gl,S2_md,S2_rd,u_S2,n3,n4,n5,n6,e1,typeS,inputS,enumS,unionS,S3_n,S3_gl,S3_md,S3_rd,u_S3,v_S3,h0,h2,h4,hn,hg,hmd,hrd,hBu,hBv,y1,y2,y3,e4,S4_n,S4_gl,S4_md,S4_rd,u_S4,v_S4,S9_n,S9_gl,S9_md,S9_R,S9_u,S9_v,z1,z2,z3]) (by omega) (by omega)⟩
        · rw[txK_add]
          have h9:=hA9.keep (S':=S9.set v [.d (dS (wd ws (i0+1))), .d (dI 2), .fl [] 0,X9]) (lo':=v+1) (hi':=S9.nx) (fun b k1 k2=>by simp[show ¬ b=v by omega]) (Nat.le_refl _) (by omega)
          simpa[shs,Ld.sh] using h9
        · intro y k1 k2
          have z1:¬ y=v:=by omega
          have a9:=hB9 y (.inl (by omega)) (by omega)
          rw[if_neg z1,a9]
          exact S4_o y k1 k2
        · intro y k1
          have a9:=congrFun hs9.T y
          rw[a9]
          exact S4_t y k1
  · skip
    have he4:=nameB_lt e4
    have hq:=pAlts_le (by omega) e3
    have hql:=pAlts_len e3
    simp[n1,n2,h,S1_n,S1_gl,S1_md,S1_rd,u_S1,S2_n,S2_gl,S2_md,S2_rd,u_S2,n3,n4,n5,n6,e1,typeS,inputS,enumS,unionS]
    refine CallT.x (l_must _ R ws (i0+2) false ⟨#[61]⟩ (by simp;omega) (by simp[n1,n2,h,S1_n,S1_gl,S1_md,S1_rd,u_S1,S2_n,S2_gl,S2_md,S2_rd,u_S2,n3,n4,n5,n6,e1,typeS,inputS,enumS,unionS]) hl (by omega) e2) rfl (fun r3 S3 hG3=>?_)
    have S3_n:=hG3.n
    try simp[n1,n2,h,S1_n,S1_gl,S1_md,S1_rd,u_S1,S2_n,S2_gl,S2_md,S2_rd,u_S2,n3,n4,n5,n6,e1,typeS,inputS,enumS,unionS] at S3_n
    have S3_gl:=hG3.gl
    try simp[n1,n2,h,S1_n,S1_gl,S1_md,S1_rd,u_S1,S2_n,S2_gl,S2_md,S2_rd,u_S2,n3,n4,n5,n6,e1,typeS,inputS,enumS,unionS,S3_n] at S3_gl
    have S3_md:=hG3.md
    try simp[n1,n2,h,S1_n,S1_gl,S1_md,S1_rd,u_S1,S2_n,S2_gl,S2_md,S2_rd,u_S2,n3,n4,n5,n6,e1,typeS,inputS,enumS,unionS,S3_n,S3_gl] at S3_md
    have S3_nx:=hG3.nx
    try simp[n1,n2,h,S1_n,S1_gl,S1_md,S1_rd,u_S1,S2_n,S2_gl,S2_md,S2_rd,u_S2,n3,n4,n5,n6,e1,typeS,inputS,enumS,unionS,S3_n,S3_gl,S3_md] at S3_nx
    have S3_rd:=hG3.rd
    have u_S3:=hG3.old u (by first | omega | (simp;omega)) (by omega)
    try simp[n1,n2,h,S1_n,S1_gl,S1_md,S1_rd,u_S1,S2_n,S2_gl,S2_md,S2_rd,u_S2,n3,n4,n5,n6,e1,typeS,inputS,enumS,unionS,S3_n,S3_gl,S3_md,S3_rd] at u_S3
    have v_S3:=hG3.old v (by first | omega | (simp;omega)) (by omega)
    try simp[n1,n2,h,S1_n,S1_gl,S1_md,S1_rd,u_S1,S2_n,S2_gl,S2_md,S2_rd,u_S2,n3,n4,n5,n6,e1,typeS,inputS,enumS,unionS,S3_n,S3_gl,S3_md,S3_rd,u_S3] at v_S3
    have S3_o:∀ y,y<N→y≠R→S3.B y=Sr.B y:=fun y k1 k2=>by
      have a1:=hG3.old y (by first | omega | (simp;omega)) k2
      have y1:¬ y=u:=by omega
      have y2:¬ y=v:=by omega
      try simp[y1,y2] at a1
      exact a1.trans (S2_o y k1 k2)
    have S3_t:∀ y,y<N→S3.T y=Sr.T y:=fun y k1=>by
      have a1:=hG3.T y (by first | omega | (simp;omega))
      try simp at a1
      exact a1.trans (S2_t y k1)
    simp[n1,n2,h,S1_n,S1_gl,S1_md,S1_rd,u_S1,S2_n,S2_gl,S2_md,S2_rd,u_S2,n3,n4,n5,n6,e1,typeS,inputS,enumS,unionS,S3_n,S3_gl,S3_md,S3_rd,u_S3,v_S3]
    refine⟨DrawT.mk (by kernel_rfl),?_⟩
    obtain⟨r4,S4,hL4,q4,hG4⟩:=l_name (S3.adv 8) R ws (i0+3) false (by simp;omega) (by simp[n1,n2,h,S1_n,S1_gl,S1_md,S1_rd,u_S1,S2_n,S2_gl,S2_md,S2_rd,u_S2,n3,n4,n5,n6,e1,typeS,inputS,enumS,unionS,S3_n,S3_gl,S3_md,S3_rd,u_S3,v_S3]) hl (by omega) e4 (by have:=nameB_size e4;omega)
    subst q4
    have S4_n:=hG4.n
    try simp[n1,n2,h,S1_n,S1_gl,S1_md,S1_rd,u_S1,S2_n,S2_gl,S2_md,S2_rd,u_S2,n3,n4,n5,n6,e1,typeS,inputS,enumS,unionS,S3_n,S3_gl,S3_md,S3_rd,u_S3,v_S3] at S4_n
    have S4_gl:=hG4.gl
    try simp[n1,n2,h,S1_n,S1_gl,S1_md,S1_rd,u_S1,S2_n,S2_gl,S2_md,S2_rd,u_S2,n3,n4,n5,n6,e1,typeS,inputS,enumS,unionS,S3_n,S3_gl,S3_md,S3_rd,u_S3,v_S3,S4_n] at S4_gl
    have S4_md:=hG4.md
    try simp[n1,n2,h,S1_n,S1_gl,S1_md,S1_rd,u_S1,S2_n,S2_gl,S2_md,S2_rd,u_S2,n3,n4,n5,n6,e1,typeS,inputS,enumS,unionS,S3_n,S3_gl,S3_md,S3_rd,u_S3,v_S3,S4_n,S4_gl] at S4_md
    have S4_nx:=hG4.nx
    try simp[n1,n2,h,S1_n,S1_gl,S1_md,S1_rd,u_S1,S2_n,S2_gl,S2_md,S2_rd,u_S2,n3,n4,n5,n6,e1,typeS,inputS,enumS,unionS,S3_n,S3_gl,S3_md,S3_rd,u_S3,v_S3,S4_n,S4_gl,S4_md] at S4_nx
    have S4_rd:=hG4.rd
    have u_S4:=hG4.old u (by first | omega | (simp;omega)) (by omega)
    try simp[n1,n2,h,S1_n,S1_gl,S1_md,S1_rd,u_S1,S2_n,S2_gl,S2_md,S2_rd,u_S2,n3,n4,n5,n6,e1,typeS,inputS,enumS,unionS,S3_n,S3_gl,S3_md,S3_rd,u_S3,v_S3,S4_n,S4_gl,S4_md,S4_rd] at u_S4
    have v_S4:=hG4.old v (by first | omega | (simp;omega)) (by omega)
    try simp[n1,n2,h,S1_n,S1_gl,S1_md,S1_rd,u_S1,S2_n,S2_gl,S2_md,S2_rd,u_S2,n3,n4,n5,n6,e1,typeS,inputS,enumS,unionS,S3_n,S3_gl,S3_md,S3_rd,u_S3,v_S3,S4_n,S4_gl,S4_md,S4_rd,u_S4] at v_S4
    have S4_o:∀ y,y<N→y≠R→S4.B y=Sr.B y:=fun y k1 k2=>by
      have a1:=hG4.old y (by first | omega | (simp;omega)) k2
      have y1:¬ y=u:=by omega
      have y2:¬ y=v:=by omega
      try simp[y1,y2] at a1
      exact a1.trans (S3_o y k1 k2)
    have S4_t:∀ y,y<N→S4.T y=Sr.T y:=fun y k1=>by
      have a1:=hG4.T y (by first | omega | (simp;omega))
      try simp at a1
      exact a1.trans (S3_t y k1)
    refine CallT.calm [((1,4),3)] (by kernel_rfl) (by kernel_rfl) hL4 (by simp[n1,n2,h,S1_n,S1_gl,S1_md,S1_rd,u_S1,S2_n,S2_gl,S2_md,S2_rd,u_S2,n3,n4,n5,n6,e1,typeS,inputS,enumS,unionS,S3_n,S3_gl,S3_md,S3_rd,u_S3,v_S3,S4_n,S4_gl,S4_md,S4_rd,u_S4,v_S4,Eh.e,refOf]) ?_
    simp[n1,n2,h,S1_n,S1_gl,S1_md,S1_rd,u_S1,S2_n,S2_gl,S2_md,S2_rd,u_S2,n3,n4,n5,n6,e1,typeS,inputS,enumS,unionS,S3_n,S3_gl,S3_md,S3_rd,u_S3,v_S3,S4_n,S4_gl,S4_md,S4_rd,u_S4,v_S4]
    refine⟨by unfold appBound;omega,?_⟩
    have nv5:¬ v=S3.nx+5:=by omega
    have nu5:¬ u=S3.nx+5:=by omega
    have nR5:¬ R=S3.nx+5:=by omega
    simp[n1,n2,h,S1_n,S1_gl,S1_md,S1_rd,u_S1,S2_n,S2_gl,S2_md,S2_rd,u_S2,n3,n4,n5,n6,e1,typeS,inputS,enumS,unionS,S3_n,S3_gl,S3_md,S3_rd,u_S3,v_S3,S4_n,S4_gl,S4_md,S4_rd,u_S4,v_S4,nv5,nu5,nR5]
    refine LoopT.round (fun E S=>∃ (f:Nat) (i:Nat) (done:List ByteArray) (rest:List ByteArray) (Y:SV),(pAlts ws f i=some (rest,j))∧(done++rest=wd ws (i0+3)::l)∧(S.B R=some (rdC ws i false))∧(AccZ S (v+1) S.nx 1 done.length (txK done) Y)∧(∀ y,y<N→y≠R→S.B y=Sr.B y)∧(∀ y,y<N→S.T y=Sr.T y)∧(v+1≤S.nx)∧(i≤ws.length)∧(S.B u=some [.d (dS ⟨#[]⟩), .d (dI 0), .fl [] 0, .fl [] 0])∧(S.B v=some [.d (dS (wd ws (i0+1))), .d (dI 4), .fl [] 0,Y])∧E 0=some (.op R 0)∧E 2=some (.op u 0)∧E 4=some (.op v 0)) (rdMu R ws.length) ⟨ws.length,i0+4,[wd ws (i0+3)],l, .sk (S3.nx+5) 1 1,by simp[n1,n2,h,S1_n,S1_gl,S1_md,S1_rd,u_S1,S2_n,S2_gl,S2_md,S2_rd,u_S2,n3,n4,n5,n6,e1,typeS,inputS,enumS,unionS,S3_n,S3_gl,S3_md,S3_rd,u_S3,v_S3,S4_n,S4_gl,S4_md,S4_rd,u_S4,v_S4,nv5,nu5,nR5];refine⟨e3,⟨.row (some 1) (S3.nx+5) 1 [.d (.string (wd ws (i0+3)))],rfl,row_sh rfl (by omega), .row (by simp[nv5,Ne.symm nv5]) (by omega) (by omega) (.cons_d .nil) (by simp[varsL,Ld.vars])⟩,fun y k1 k2=>?_,fun y k1=>S4_t y k1,by omega,by omega⟩;rw[if_neg (by omega),if_neg (by omega)];exact S4_o y k1 k2⟩ ?_
    rintro E S hk ⟨f,i,done,rest,Y,hpf,hL,hrd,hA,hrO2,hrT2,hnx,hil,hBu,hBv,h0,h2,h4⟩
    have hn:S.n=82:=by first | (simpa using hk.n)|(have hh:=hk.n;simp[n1,n2,h,S1_n,S1_gl,S1_md,S1_rd,u_S1,S2_n,S2_gl,S2_md,S2_rd,u_S2,n3,n4,n5,n6,e1,typeS,inputS,enumS,unionS,S3_n,S3_gl,S3_md,S3_rd,u_S3,v_S3,S4_n,S4_gl,S4_md,S4_rd,u_S4,v_S4,nv5,nu5,nR5] at hh;exact hh)
    have hg:S.gl=S0.gl:=by first | (simpa using hk.gl)|(have hh:=hk.gl;simp[n1,n2,h,S1_n,S1_gl,S1_md,S1_rd,u_S1,S2_n,S2_gl,S2_md,S2_rd,u_S2,n3,n4,n5,n6,e1,typeS,inputS,enumS,unionS,S3_n,S3_gl,S3_md,S3_rd,u_S3,v_S3,S4_n,S4_gl,S4_md,S4_rd,u_S4,v_S4,nv5,nu5,nR5] at hh;exact hh)
    have hmd:S.md=[1000045,1000059,1000078]:=by first | (simpa using hk.md)|(have hh:=hk.md;simp[n1,n2,h,S1_n,S1_gl,S1_md,S1_rd,u_S1,S2_n,S2_gl,S2_md,S2_rd,u_S2,n3,n4,n5,n6,e1,typeS,inputS,enumS,unionS,S3_n,S3_gl,S3_md,S3_rd,u_S3,v_S3,S4_n,S4_gl,S4_md,S4_rd,u_S4,v_S4,nv5,nu5,nR5] at hh;exact hh)
    simp[n1,n2,h,S1_n,S1_gl,S1_md,S1_rd,u_S1,S2_n,S2_gl,S2_md,S2_rd,u_S2,n3,n4,n5,n6,e1,typeS,inputS,enumS,unionS,S3_n,S3_gl,S3_md,S3_rd,u_S3,v_S3,S4_n,S4_gl,S4_md,S4_rd,u_S4,v_S4,nv5,nu5,nR5,h0,h2,h4,hn,hg,hmd]
    obtain⟨f,rfl⟩:∃ g,f=g+1:=by
      cases f with
      | zero=>cases hpf
      | succ g=>exact⟨g,rfl⟩
    have hle:=pAlts_le hil hpf
    have hdl:done.length≤ws.length:=by
      have:=congrArg List.length hL
      simp at this
      omega
    obtain⟨y1,y2,y3⟩:=hA.one
    refine CallT.l (l_peek (ws:=ws) (i:=i) (bad:=false) (by simp[n1,n2,h,S1_n,S1_gl,S1_md,S1_rd,u_S1,S2_n,S2_gl,S2_md,S2_rd,u_S2,n3,n4,n5,n6,e1,typeS,inputS,enumS,unionS,S3_n,S3_gl,S3_md,S3_rd,u_S3,v_S3,S4_n,S4_gl,S4_md,S4_rd,u_S4,v_S4,nv5,nu5,nR5,h0,h2,h4,hn,hg,hmd,hrd,hBu,hBv,y1,y2,y3]) hl (by omega)) rfl ?_
    rcases pAlts_some hpf with ⟨e5,rfl,rfl⟩ | ⟨e5,e6,r',hpf',rfl⟩
    · skip
      simp[n1,n2,h,S1_n,S1_gl,S1_md,S1_rd,u_S1,S2_n,S2_gl,S2_md,S2_rd,u_S2,n3,n4,n5,n6,e1,typeS,inputS,enumS,unionS,S3_n,S3_gl,S3_md,S3_rd,u_S3,v_S3,S4_n,S4_gl,S4_md,S4_rd,u_S4,v_S4,nv5,nu5,nR5,h0,h2,h4,hn,hg,hmd,hrd,hBu,hBv,y1,y2,y3,e5]
      obtain⟨x,rfl,x2,x3⟩:=hA
      rw[List.append_nil] at hL
      subst hL
      refine⟨[.d (.string (wd ws (i0+1))), .d (.int .i64 4), .nil,x],rfl,by simp[shs,Ld.sh,x2,Def.sz,skT],rfl,rfl,rfl,by simp;omega,by simp[n1,n2,h,S1_n,S1_gl,S1_md,S1_rd,u_S1,S2_n,S2_gl,S2_md,S2_rd,u_S2,n3,n4,n5,n6,e1,typeS,inputS,enumS,unionS,S3_n,S3_gl,S3_md,S3_rd,u_S3,v_S3,S4_n,S4_gl,S4_md,S4_rd,u_S4,v_S4,nv5,nu5,nR5,h0,h2,h4,hn,hg,hmd,hrd,hBu,hBv,y1,y2,y3,e5],?_,?_,?_⟩
      · intro y k1 k2
        have z1:¬ y=u:=by omega
        have z2:¬ y=v:=by omega
        simp[z1,z2]
        exact (hrO2 y (by omega) k2).trans (by rw[hSr])
      · intro y k1
        exact (hrT2 y (by omega)).trans (by rw[hSr])
      · refine .cons_d (.cons_d (.cons_nil ((x3.keep fun b k1 k2=>?_).le (by omega) (by simp))))
        simp[show ¬ b=u by omega]
    · skip
      have he6:=nameB_lt e6
      simp[n1,n2,h,S1_n,S1_gl,S1_md,S1_rd,u_S1,S2_n,S2_gl,S2_md,S2_rd,u_S2,n3,n4,n5,n6,e1,typeS,inputS,enumS,unionS,S3_n,S3_gl,S3_md,S3_rd,u_S3,v_S3,S4_n,S4_gl,S4_md,S4_rd,u_S4,v_S4,nv5,nu5,nR5,h0,h2,h4,hn,hg,hmd,hrd,hBu,hBv,y1,y2,y3,e5]
      refine CallT.x (l_next _ R ws i false (by simp;omega) (by simp[n1,n2,h,S1_n,S1_gl,S1_md,S1_rd,u_S1,S2_n,S2_gl,S2_md,S2_rd,u_S2,n3,n4,n5,n6,e1,typeS,inputS,enumS,unionS,S3_n,S3_gl,S3_md,S3_rd,u_S3,v_S3,S4_n,S4_gl,S4_md,S4_rd,u_S4,v_S4,nv5,nu5,nR5,h0,h2,h4,hn,hg,hmd,hrd,hBu,hBv,y1,y2,y3,e5]) hl (by omega)) rfl (fun r5 S5 hh=>?_)
      obtain⟨q5,hG5⟩:=hh
      subst q5
      have S5_n:=hG5.n
      try simp[n1,n2,h,S1_n,S1_gl,S1_md,S1_rd,u_S1,S2_n,S2_gl,S2_md,S2_rd,u_S2,n3,n4,n5,n6,e1,typeS,inputS,enumS,unionS,S3_n,S3_gl,S3_md,S3_rd,u_S3,v_S3,S4_n,S4_gl,S4_md,S4_rd,u_S4,v_S4,nv5,nu5,nR5,h0,h2,h4,hn,hg,hmd,hrd,hBu,hBv,y1,y2,y3,e5] at S5_n
      have S5_gl:=hG5.gl
      try simp[n1,n2,h,S1_n,S1_gl,S1_md,S1_rd,u_S1,S2_n,S2_gl,S2_md,S2_rd,u_S2,n3,n4,n5,n6,e1,typeS,inputS,enumS,unionS,S3_n,S3_gl,S3_md,S3_rd,u_S3,v_S3,S4_n,S4_gl,S4_md,S4_rd,u_S4,v_S4,nv5,nu5,nR5,h0,h2,h4,hn,hg,hmd,hrd,hBu,hBv,y1,y2,y3,e5,S5_n] at S5_gl
      have S5_md:=hG5.md
      try simp[n1,n2,h,S1_n,S1_gl,S1_md,S1_rd,u_S1,S2_n,S2_gl,S2_md,S2_rd,u_S2,n3,n4,n5,n6,e1,typeS,inputS,enumS,unionS,S3_n,S3_gl,S3_md,S3_rd,u_S3,v_S3,S4_n,S4_gl,S4_md,S4_rd,u_S4,v_S4,nv5,nu5,nR5,h0,h2,h4,hn,hg,hmd,hrd,hBu,hBv,y1,y2,y3,e5,S5_n,S5_gl] at S5_md
      have S5_nx:=hG5.nx
      try simp[n1,n2,h,S1_n,S1_gl,S1_md,S1_rd,u_S1,S2_n,S2_gl,S2_md,S2_rd,u_S2,n3,n4,n5,n6,e1,typeS,inputS,enumS,unionS,S3_n,S3_gl,S3_md,S3_rd,u_S3,v_S3,S4_n,S4_gl,S4_md,S4_rd,u_S4,v_S4,nv5,nu5,nR5,h0,h2,h4,hn,hg,hmd,hrd,hBu,hBv,y1,y2,y3,e5,S5_n,S5_gl,S5_md] at S5_nx
      have S5_rd:=hG5.rd
      have u_S5:=hG5.old u (by first | omega | (simp;omega)) (by omega)
      try simp[n1,n2,h,S1_n,S1_gl,S1_md,S1_rd,u_S1,S2_n,S2_gl,S2_md,S2_rd,u_S2,n3,n4,n5,n6,e1,typeS,inputS,enumS,unionS,S3_n,S3_gl,S3_md,S3_rd,u_S3,v_S3,S4_n,S4_gl,S4_md,S4_rd,u_S4,v_S4,nv5,nu5,nR5,h0,h2,h4,hn,hg,hmd,hrd,hBu,hBv,y1,y2,y3,e5,S5_n,S5_gl,S5_md,S5_rd] at u_S5
      have v_S5:=hG5.old v (by first | omega | (simp;omega)) (by omega)
      try simp[n1,n2,h,S1_n,S1_gl,S1_md,S1_rd,u_S1,S2_n,S2_gl,S2_md,S2_rd,u_S2,n3,n4,n5,n6,e1,typeS,inputS,enumS,unionS,S3_n,S3_gl,S3_md,S3_rd,u_S3,v_S3,S4_n,S4_gl,S4_md,S4_rd,u_S4,v_S4,nv5,nu5,nR5,h0,h2,h4,hn,hg,hmd,hrd,hBu,hBv,y1,y2,y3,e5,S5_n,S5_gl,S5_md,S5_rd,u_S5] at v_S5
      have S5_o:∀ y,y<N→y≠R→S5.B y=Sr.B y:=fun y k1 k2=>by
        have a1:=hG5.old y (by first | omega | (simp;omega)) k2
        have y1:¬ y=u:=by omega
        have y2:¬ y=v:=by omega
        try simp[y1,y2] at a1
        exact a1.trans (hrO2 y k1 k2)
      have S5_t:∀ y,y<N→S5.T y=Sr.T y:=fun y k1=>by
        have a1:=hG5.T y (by first | omega | (simp;omega))
        try simp at a1
        exact a1.trans (hrT2 y k1)
      simp[n1,n2,h,S1_n,S1_gl,S1_md,S1_rd,u_S1,S2_n,S2_gl,S2_md,S2_rd,u_S2,n3,n4,n5,n6,e1,typeS,inputS,enumS,unionS,S3_n,S3_gl,S3_md,S3_rd,u_S3,v_S3,S4_n,S4_gl,S4_md,S4_rd,u_S4,v_S4,nv5,nu5,nR5,h0,h2,h4,hn,hg,hmd,hrd,hBu,hBv,y1,y2,y3,e5,S5_n,S5_gl,S5_md,S5_rd,u_S5,v_S5]
      refine⟨DrawT.mk (by kernel_rfl),?_⟩
      obtain⟨r6,S6,hL6,q6,hG6⟩:=l_name (S5.adv 8) R ws (i+1) false (by simp;omega) (by simp[n1,n2,h,S1_n,S1_gl,S1_md,S1_rd,u_S1,S2_n,S2_gl,S2_md,S2_rd,u_S2,n3,n4,n5,n6,e1,typeS,inputS,enumS,unionS,S3_n,S3_gl,S3_md,S3_rd,u_S3,v_S3,S4_n,S4_gl,S4_md,S4_rd,u_S4,v_S4,nv5,nu5,nR5,h0,h2,h4,hn,hg,hmd,hrd,hBu,hBv,y1,y2,y3,e5,S5_n,S5_gl,S5_md,S5_rd,u_S5,v_S5]) hl (by omega) e6 (by have:=nameB_size e6;omega)
      subst q6
      have S6_n:=hG6.n
      try simp[n1,n2,h,S1_n,S1_gl,S1_md,S1_rd,u_S1,S2_n,S2_gl,S2_md,S2_rd,u_S2,n3,n4,n5,n6,e1,typeS,inputS,enumS,unionS,S3_n,S3_gl,S3_md,S3_rd,u_S3,v_S3,S4_n,S4_gl,S4_md,S4_rd,u_S4,v_S4,nv5,nu5,nR5,h0,h2,h4,hn,hg,hmd,hrd,hBu,hBv,y1,y2,y3,e5,S5_n,S5_gl,S5_md,S5_rd,u_S5,v_S5] at S6_n
      have S6_gl:=hG6.gl
      try simp[n1,n2,h,S1_n,S1_gl,S1_md,S1_rd,u_S1,S2_n,S2_gl,S2_md,S2_rd,u_S2,n3,n4,n5,n6,e1,typeS,inputS,enumS,unionS,S3_n,S3_gl,S3_md,S3_rd,u_S3,v_S3,S4_n,S4_gl,S4_md,S4_rd,u_S4,v_S4,nv5,nu5,nR5,h0,h2,h4,hn,hg,hmd,hrd,hBu,hBv,y1,y2,y3,e5,S5_n,S5_gl,S5_md,S5_rd,u_S5,v_S5,S6_n] at S6_gl
      have S6_md:=hG6.md
      try simp[n1,n2,h,S1_n,S1_gl,S1_md,S1_rd,u_S1,S2_n,S2_gl,S2_md,S2_rd,u_S2,n3,n4,n5,n6,e1,typeS,inputS,enumS,unionS,S3_n,S3_gl,S3_md,S3_rd,u_S3,v_S3,S4_n,S4_gl,S4_md,S4_rd,u_S4,v_S4,nv5,nu5,nR5,h0,h2,h4,hn,hg,hmd,hrd,hBu,hBv,y1,y2,y3,e5,S5_n,S5_gl,S5_md,S5_rd,u_S5,v_S5,S6_n,S6_gl] at S6_md
      have S6_nx:=hG6.nx
      try simp[n1,n2,h,S1_n,S1_gl,S1_md,S1_rd,u_S1,S2_n,S2_gl,S2_md,S2_rd,u_S2,n3,n4,n5,n6,e1,typeS,inputS,enumS,unionS,S3_n,S3_gl,S3_md,S3_rd,u_S3,v_S3,S4_n,S4_gl,S4_md,S4_rd,u_S4,v_S4,nv5,nu5,nR5,h0,h2,h4,hn,hg,hmd,hrd,hBu,hBv,y1,y2,y3,e5,S5_n,S5_gl,S5_md,S5_rd,u_S5,v_S5,S6_n,S6_gl,S6_md] at S6_nx
      have S6_rd:=hG6.rd
      have u_S6:=hG6.old u (by first | omega | (simp;omega)) (by omega)
      try simp[n1,n2,h,S1_n,S1_gl,S1_md,S1_rd,u_S1,S2_n,S2_gl,S2_md,S2_rd,u_S2,n3,n4,n5,n6,e1,typeS,inputS,enumS,unionS,S3_n,S3_gl,S3_md,S3_rd,u_S3,v_S3,S4_n,S4_gl,S4_md,S4_rd,u_S4,v_S4,nv5,nu5,nR5,h0,h2,h4,hn,hg,hmd,hrd,hBu,hBv,y1,y2,y3,e5,S5_n,S5_gl,S5_md,S5_rd,u_S5,v_S5,S6_n,S6_gl,S6_md,S6_rd] at u_S6
      have v_S6:=hG6.old v (by first | omega | (simp;omega)) (by omega)
      try simp[n1,n2,h,S1_n,S1_gl,S1_md,S1_rd,u_S1,S2_n,S2_gl,S2_md,S2_rd,u_S2,n3,n4,n5,n6,e1,typeS,inputS,enumS,unionS,S3_n,S3_gl,S3_md,S3_rd,u_S3,v_S3,S4_n,S4_gl,S4_md,S4_rd,u_S4,v_S4,nv5,nu5,nR5,h0,h2,h4,hn,hg,hmd,hrd,hBu,hBv,y1,y2,y3,e5,S5_n,S5_gl,S5_md,S5_rd,u_S5,v_S5,S6_n,S6_gl,S6_md,S6_rd,u_S6] at v_S6
      have S6_o:∀ y,y<N→y≠R→S6.B y=Sr.B y:=fun y k1 k2=>by
        have a1:=hG6.old y (by first | omega | (simp;omega)) k2
        have y1:¬ y=u:=by omega
        have y2:¬ y=v:=by omega
        try simp[y1,y2] at a1
        exact a1.trans (S5_o y k1 k2)
      have S6_t:∀ y,y<N→S6.T y=Sr.T y:=fun y k1=>by
        have a1:=hG6.T y (by first | omega | (simp;omega))
        try simp at a1
        exact a1.trans (S5_t y k1)
      refine CallT.calm [((1,4),3)] (by kernel_rfl) (by kernel_rfl) hL6 ?_ ?_
      · simp[n1,n2,h,S1_n,S1_gl,S1_md,S1_rd,u_S1,S2_n,S2_gl,S2_md,S2_rd,u_S2,n3,n4,n5,n6,e1,typeS,inputS,enumS,unionS,S3_n,S3_gl,S3_md,S3_rd,u_S3,v_S3,S4_n,S4_gl,S4_md,S4_rd,u_S4,v_S4,nv5,nu5,nR5,h0,h2,h4,hn,hg,hmd,hrd,hBu,hBv,y1,y2,y3,e5,S5_n,S5_gl,S5_md,S5_rd,u_S5,v_S5,S6_n,S6_gl,S6_md,S6_rd,u_S6,v_S6,Eh.e,refOf]
      simp[n1,n2,h,S1_n,S1_gl,S1_md,S1_rd,u_S1,S2_n,S2_gl,S2_md,S2_rd,u_S2,n3,n4,n5,n6,e1,typeS,inputS,enumS,unionS,S3_n,S3_gl,S3_md,S3_rd,u_S3,v_S3,S4_n,S4_gl,S4_md,S4_rd,u_S4,v_S4,nv5,nu5,nR5,h0,h2,h4,hn,hg,hmd,hrd,hBu,hBv,y1,y2,y3,e5,S5_n,S5_gl,S5_md,S5_rd,u_S5,v_S5,S6_n,S6_gl,S6_md,S6_rd,u_S6,v_S6]
      refine OpT_addZ2 (e:=9) (by_:=16) (lo2:=S.nx) (hi2:=S.nx) [.d (.string (wd ws (i+1)))] (by kernel_rfl) hA (txK_len _) (by unfold appBound;omega) rfl rfl (by omega) (by omega) (by omega) (by omega) ?_ (.cons_d .nil) ?_
      · intro b k1 k2
        have o6:=hG6.old b (by simp;omega) (by omega)
        have o5:=hG5.old b (by simp;omega) (by omega)
        simp at o6 o5
        exact o6.trans o5
      · intro X9 S9 E9 hE9 hA9 hB9 hs9
        rw[hE9]
        have S9_n:=hs9.n
        have S9_gl:=hs9.gl
        have S9_md:=hs9.md
        have S9_nx:=hs9.nx
        have S9_R:=hB9 R (.inl (by omega)) (by omega)
        have S9_u:=hB9 u (.inl (by omega)) (by omega)
        have S9_v:=hB9 v (.inl (by omega)) (by omega)
        simp[n1,n2,h,S1_n,S1_gl,S1_md,S1_rd,u_S1,S2_n,S2_gl,S2_md,S2_rd,u_S2,n3,n4,n5,n6,e1,typeS,inputS,enumS,unionS,S3_n,S3_gl,S3_md,S3_rd,u_S3,v_S3,S4_n,S4_gl,S4_md,S4_rd,u_S4,v_S4,nv5,nu5,nR5,h0,h2,h4,hn,hg,hmd,hrd,hBu,hBv,y1,y2,y3,e5,S5_n,S5_gl,S5_md,S5_rd,u_S5,v_S5,S6_n,S6_gl,S6_md,S6_rd,u_S6,v_S6] at S9_n S9_gl S9_md S9_nx S9_R S9_u S9_v
        obtain⟨z1,z2,z3⟩:=hA9.one
        simp[n1,n2,h,S1_n,S1_gl,S1_md,S1_rd,u_S1,S2_n,S2_gl,S2_md,S2_rd,u_S2,n3,n4,n5,n6,e1,typeS,inputS,enumS,unionS,S3_n,S3_gl,S3_md,S3_rd,u_S3,v_S3,S4_n,S4_gl,S4_md,S4_rd,u_S4,v_S4,nv5,nu5,nR5,h0,h2,h4,hn,hg,hmd,hrd,hBu,hBv,y1,y2,y3,e5,S5_n,S5_gl,S5_md,S5_rd,u_S5,v_S5,S6_n,S6_gl,S6_md,S6_rd,u_S6,v_S6,S9_n,S9_gl,S9_md,S9_R,S9_u,S9_v,z1,z2,z3]
        refine⟨⟨f,i+2,done++[wd ws (i+1)],r',hpf',by simpa using hL,by omega,X9,?_,?_,?_,by omega,by omega,rfl⟩,rdMu_lt hrd (j:=i+2) (b':=false) (by simp[n1,n2,h,S1_n,S1_gl,S1_md,S1_rd,u_S1,S2_n,S2_gl,S2_md,S2_rd,u_S2,n3,n4,n5,n6,e1,typeS,inputS,enumS,unionS,S3_n,S3_gl,S3_md,S3_rd,u_S3,v_S3,S4_n,S4_gl,S4_md,S4_rd,u_S4,v_S4,nv5,nu5,nR5,h0,h2,h4,hn,hg,hmd,hrd,hBu,hBv,y1,y2,y3,e5,S5_n,S5_gl,S5_md,S5_rd,u_S5,v_S5,S6_n,S6_gl,S6_md,S6_rd,u_S6,v_S6,S9_n,S9_gl,S9_md,S9_R,S9_u,S9_v,z1,z2,z3]) (by omega) (by omega)⟩
        · rw[txK_add]
          have h9:=hA9.keep (S':=S9.set v [.d (dS (wd ws (i0+1))), .d (dI 4), .fl [] 0,X9]) (lo':=v+1) (hi':=S9.nx) (fun b k1 k2=>by simp[show ¬ b=v by omega]) (Nat.le_refl _) (by omega)
          simpa[shs,Ld.sh] using h9
        · intro y k1 k2
          have z1:¬ y=v:=by omega
          have a9:=hB9 y (.inl (by omega)) (by omega)
          rw[if_neg z1,a9]
          exact S6_o y k1 k2
        · intro y k1
          have a9:=congrFun hs9.T y
          rw[a9]
          exact S6_t y k1
structure Got0 (S S':St) (X:List Ld):Prop where
  n:S'.n=S.n
  gl:S'.gl=S.gl
  md:S'.md=S.md
  nx:S.nx≤S'.nx
  old:∀ x,x<S.nx→S'.B x=S.B x
  T:∀ x,x<S.nx→S'.T x=S.T x
  new:At S' S.nx S'.nx X
theorem frz_at {S:St}{lo hi:Nat}{x:Ld} (h:At S lo hi [x]):mapO (frz S.B (x.sh.dep+1)) [x.sv]=some [x.sh.data]:=by
  have:=(frz_ld (B:=S.B) x (x.sh.dep+1) (fun p hp=>h.has p (by simpa[varsL] using hp)) (by omega)).1
  simp[mapO,this]
set_option maxHeartbeats 16000000 in
theorem l_get (lt:List UInt8) (hpl:lt.all plainU=true) (hln:lt.length≤1500) (ws:List ByteArray) (hws:(wordsL lt).map bs=ws) (hl:ws.length≤1048576) (L:List Def) (hp:pDefs ws ws.length 0=some L) (hck:checkB L=0) (hsm:∀ d∈L,DefSm d) (S0:St) :
    ∃ r S',LCall Tryz.prog 124 [.d (dS (bs lt))] S0 r S'∧∃ x:Ld,r=.tu [x.sv, .d (dB true)]∧x.sh=skDefs L∧Got0 S0 S' [x]:=by
  have hW:=p_Words (gl:=S0.gl) lt (List.all_eq_true.1 hpl) hln
  rw[hws] at hW
  have hLl:=pDefs_len (Nat.zero_le _) hp
  refine LCall.ex_ (md:=[1000040]) Tryz.func124 rfl (by kernel_rfl) (by kernel_rfl) (n:=53) Tryz.ntmps124 (by simp) (by decide) rfl ?_
  simp
  repeat refine⟨DrawT.mk (by kernel_rfl),?_⟩
  refine CallT.p0 (hW) (by first | rfl | (simp;done)|(simp;done)) (by first | rfl | (simp;done)|(simp;rfl)|(simp;done)) ?_
  simp
  obtain⟨R,hR⟩:∃ R,S0.nx+2+7+2+2=R:=⟨_,rfl⟩
  rw[hR]
  refine LoopT.round (fun E S=>∃ (f:Nat) (i:Nat) (done:List Def) (rest:List Def) (X:SV),(pDefs ws f i=some rest)∧(done++rest=L)∧(S.B R=some (rdC ws i false))∧(AccZ S (R+1) S.nx 4 done.length (rowsZ Def.sz done) X)∧(∀ y,y<S0.nx→S.B y=S0.B y)∧(∀ y,y<S0.nx→S.T y=S0.T y)∧(R+1≤S.nx)∧(i≤ws.length)∧E 6=some (.op R 0)∧E 7=some (X)) (rdMu R ws.length) ⟨ws.length,0,[],L, .fl [] 0,by simp;refine⟨hp,AccZ.nil,fun y k1=>fun e=>by omega,by omega⟩⟩ ?_
  rintro E S hk ⟨f,i,done,rest,X,hpf,hL,hrd,hA,ho,hT,hnx,hil,h6,h7⟩
  have hn:S.n=53:=by first | (simpa using hk.n)|(have hh:=hk.n;simp at hh;exact hh)
  have hg:S.gl=S0.gl:=by first | (simpa using hk.gl)|(have hh:=hk.gl;simp at hh;exact hh)
  have hmd:S.md=[1000040]:=by first | (simpa using hk.md)|(have hh:=hk.md;simp at hh;exact hh)
  simp[h6,h7,hn,hg,hmd]
  obtain⟨f,rfl⟩:∃ g,f=g+1:=by
    cases f with
    | zero=>cases hpf
    | succ g=>exact⟨g,rfl⟩
  simp[h6,h7,hn,hg,hmd,hrd]
  refine⟨DrawT.mk (by kernel_rfl),?_⟩
  rcases pDefs_some hpf with ⟨e1,rfl⟩ | ⟨e1,d,j,r',e2,hpf',rfl⟩
  · have e3:¬ i<ws.length:=by omega
    simp[h6,h7,hn,hg,hmd,hrd,e3]
    rw[List.append_nil] at hL
    subst hL
    obtain⟨x,rfl,x2,x3⟩:=hA
    have hx:x.sh=skDefs done:=x2
    have hfz:=frz_at x3
    rw[hx,skDefs_data] at hfz
    refine CallT.l (LCall.ofP (p_spCheck done (by omega) hsm) (by simpa using hfz)) rfl ?_
    simp[h6,h7,hn,hg,hmd,hrd,e3,hck]
    refine⟨x,rfl,hx,rfl,rfl,rfl,by simp;omega,fun y k1=>?_,fun y k1=>?_,?_⟩
    · simpa using ho y k1
    · simpa using hT y k1
    · exact (x3.keep fun b k1 k2=>by simp).le (by omega) (by simp)
  · skip
    have hdl:=pDef_le e2
    simp[h6,h7,hn,hg,hmd,hrd,e1]
    refine CallT.x (l_def ws hl _ R i j d e2 (by simp;omega) (by simp[h6,h7,hn,hg,hmd,hrd,e1])) rfl (fun r1 S1 h1=>?_)
    obtain⟨D1,q1,hD1,hG1⟩:=h1
    subst q1
    obtain⟨da,db,dc,dd,rfl⟩:∃ a b c d,D1=[a,b,c,d]:=by
      have h4:D1.length=4:=by rw[← shs_len,hD1];simp
      match D1,h4 with
      | [a,b,c,d],_=>exact⟨a,b,c,d,rfl⟩
    have S1_n:=hG1.n
    try simp[h6,h7,hn,hg,hmd,hrd,e1] at S1_n
    have S1_gl:=hG1.gl
    try simp[h6,h7,hn,hg,hmd,hrd,e1,S1_n] at S1_gl
    have S1_md:=hG1.md
    try simp[h6,h7,hn,hg,hmd,hrd,e1,S1_n,S1_gl] at S1_md
    have S1_nx:=hG1.nx
    try simp[h6,h7,hn,hg,hmd,hrd,e1,S1_n,S1_gl,S1_md] at S1_nx
    have S1_rd:=hG1.rd
    simp[h6,h7,hn,hg,hmd,hrd,e1,S1_n,S1_gl,S1_md,S1_rd]
    have hdl2:done.length+1≤ws.length:=by
      have:=hLl
      rw[← hL] at this
      simp at this
      omega
    have hN:=hG1.new
    simp at hN
    refine OpT_addZ (e:=29) (by_:=72) (N:=[da,db,dc,dd]) (lo2:=S.nx+17+6) (hi2:=S1.nx) (hi':=S1.nx) hA (rowsZ_len (fun x=>by simp) _) ?_ rfl hN rfl (by kernel_rfl) (by unfold appBound;omega) (by omega) (by omega) (by omega) (by omega) (by omega) (by omega) (fun p hp=>by have:=hN.rng p hp;omega) ?_
    · intro b k1 k2
      have o1:=hG1.old b (by simp;omega) (by omega)
      simpa using o1
    · intro X9 S9 E9 hE9 hA9 hB9 hs9
      rw[hE9]
      have S9_n:=hs9.n
      have S9_gl:=hs9.gl
      have S9_md:=hs9.md
      have S9_nx:=hs9.nx
      have S9_R:=hB9 R (.inl (by omega)) (by omega)
      simp[h6,h7,hn,hg,hmd,hrd,e1,S1_n,S1_gl,S1_md,S1_rd] at S9_n S9_gl S9_md S9_nx S9_R
      simp[h6,h7,hn,hg,hmd,hrd,e1,S1_n,S1_gl,S1_md,S1_rd,S9_n,S9_gl,S9_md,S9_R]
      refine⟨⟨f,j,done++[d],r',hpf',by simpa using hL,rfl,X9,?_,?_,?_,by omega,by omega,rfl⟩,rdMu_lt hrd (j:=j) (b':=false) (by simp[h6,h7,hn,hg,hmd,hrd,e1,S1_n,S1_gl,S1_md,S1_rd,S9_n,S9_gl,S9_md,S9_R]) (by omega) (by omega)⟩
      · rw[rows_add, ← hD1]
        have h9:=hA9.keep (S':=S9) (lo':=R+1) (hi':=S9.nx) (fun b k1 k2=>rfl) (Nat.le_refl _) (by omega)
        simpa using h9
      · intro y k1
        have a9:=hB9 y (.inl (by omega)) (by omega)
        have a1:=hG1.old y (by simp;omega) (by omega)
        rw[a9,a1]
        exact ho y k1
      · intro y k1
        have a9:=congrFun hs9.T y
        have a1:=hG1.T y (by simp;omega)
        rw[a9,a1]
        exact hT y k1
theorem tle0 {s:ByteArray}{b:Bool} (h:s.size≤1048576):TLe 1048576 (.mk s [] b):=.mk h (by simp) (by simp)
theorem tle1 {s:ByteArray}{b:Bool}{t:Typ} (h:s.size≤1048576) (ht:TLe 1048576 t):TLe 1048576 (.mk s [t] b):=.mk h (by simp) (by simpa using ht)
theorem small0 {k n:Int}{s:ByteArray} (h:s.size≤1048576):Small (.mk k n s [] []):=.mk h (by simp) (by simp) (by simp) (by simp)
theorem bsz (l:Array UInt8):(ByteArray.mk l).size=l.size:=rfl
theorem schema_sm:∀ d∈schemaL,DefSm d:=by
  intro d hd
  simp only[schemaL,List.mem_cons,List.not_mem_nil,or_false] at hd
  rcases hd with rfl | rfl | rfl | rfl | rfl | rfl | rfl
  all_goals
    simp[DefSm,FldSm,ArgSm,bsz]
  all_goals
    repeat' first | exact tle0 (by decide) | exact small0 (by decide) | refine tle1 (by decide) ?_ | refine And.intro ?_ ?_
abbrev kindT:Typ:=.mk ⟨#[75,105,110,100]⟩ [] false
abbrev catV:Val:=.mk 7 0 ⟨#[67,65,84]⟩ [] []
theorem schema_fits (l:List Def) (h:fitsB l kindT catV=true):schemaL.all (defFits l)=true:=by
  simp[schemaL,defFits,fldFits,argFits,h]
theorem schema_ok:checkB schemaL=0:=by
  refine check_zero.2 ⟨by decide,by decide +kernel,by decide +kernel,by decide +kernel,by decide +kernel,by decide +kernel,schema_fits _ ?_,by decide +kernel⟩
  rw[fitsB_eq]
  decide +kernel
set_option maxHeartbeats 4000000 in
theorem l_schema (S0:St):∃ r S',LCall Tryz.prog 66 [] S0 r S'∧∃ x:Ld,r=x.sv∧x.sh=skDefs schemaL∧Got0 S0 S' [x]:=by
  have hg:=fun S=>l_get litL lit_plain (by decide) litW lit_words (by decide) schemaL lit_schema schema_ok schema_sm S
  refine LCall.ex_ (md:=[]) Tryz.func66 rfl (by kernel_rfl) (by kernel_rfl) (n:=8) Tryz.ntmps66 (by simp) (by decide) rfl ?_
  simp
  refine CallT.x (hg _) rfl (fun r1 S1 h1=>?_)
  obtain⟨x,rfl,hx,hG1⟩:=h1
  obtain⟨x1,x2,x3⟩:=z_one hx
  have S1_n:=hG1.n
  have S1_gl:=hG1.gl
  have S1_md:=hG1.md
  have S1_nx:=hG1.nx
  simp at S1_n S1_gl S1_md S1_nx
  simp[S1_n,S1_gl,S1_md,x1,x2,x3]
  refine⟨x,rfl,hx,rfl,rfl,rfl,by simp;omega,fun y k1=>?_,fun y k1=>?_,?_⟩
  · have a1:=hG1.old y (by simp;omega)
    simpa using a1
  · have a1:=hG1.T y (by simp;omega)
    simpa using a1
  · have hN:=hG1.new
    simp at hN
    exact (hN.keep fun b k1 k2=>by simp).le (by omega) (by simp)
def typV:Typ→List SV
  | .mk s l b=>[.d (dS s), .fl (typsCells l) l.length, .d (dB b)]
def Wrap (names:List ByteArray):Nat→Typ→Prop
  | 0,t=>∃ n b,t=.mk n [] b∧n∈names
  | k+1,t=>∃ t' b,t=.mk ⟨#[]⟩ [t'] b∧Wrap names k t'
theorem Wrap.tle {names:List ByteArray} (hn:∀ s∈names,s.size≤1048576):∀ {k:Nat}{t:Typ},Wrap names k t→TLe 1048576 t
  | 0,t,h=>by
    obtain⟨n,b,rfl,hm⟩:=h
    exact tle0 (hn _ hm)
  | k+1,t,h=>by
    obtain⟨t',b,rfl,h'⟩:=h
    exact tle1 (by decide) (Wrap.tle hn h')
set_option maxHeartbeats 16000000 in
theorem l_type13 (S0:St) (R:Nat) (c:List UInt8) (p:Nat) (X:SV) (l:List ByteArray) (hX:TextRow X l) (hl0:l≠[]) (hll:l.length≤1000000) (hR:R<S0.nx) (h:S0.B R=some (rdP c p)) (hc:c.length≤2000) (hp:p≤900000) :
    ∃ r S',LCall Tryz.prog 74 [.op R 0,X] S0 r S'∧∃ (t:Typ) (k q:Nat),r=.ag (typV t)∧Wrap l k t∧k≤2∧Got S0 S' R (rdP c q) []∧q≤p+5:=by
  have hX1:X.one=true∧X.cells=[X]∧X.cell=true:=by rcases hX with rfl | rfl<;>exact⟨rfl,rfl,rfl⟩
  obtain⟨X1,X2,X3⟩:=hX1
  have ho:=ofK_mem c p hl0
  refine LCall.ex_ (md:=[]) Tryz.func74 rfl (by kernel_rfl) (by kernel_rfl) (n:=28) Tryz.ntmps74 (by simp) (by decide) rfl ?_
  simp[h,X1,X2,X3]
  generalize hu:S0.nx=u at *
  have n1:¬ R=u:=by omega
  have n2:¬ u=R:=by omega
  obtain⟨N,hN⟩:∃ N,u=N:=⟨_,rfl⟩
  obtain⟨Sr,hSr⟩:∃ Sr,S0=Sr:=⟨_,rfl⟩
  have hrO:∀ y,y<N→y≠R→S0.B y=Sr.B y:=fun y _ _=>by rw[hSr]
  have hrT:∀ y,y<N→S0.T y=Sr.T y:=fun y _=>by rw[hSr]
  refine CallT.x (x_of _ R c p X l hX hl0 hll (by simp;omega) (by simp[h,X1,X2,X3,n1,n2]) hc (by omega)) rfl (fun r1 S1 h1=>?_)
  obtain⟨q1,hG1⟩:=h1
  subst q1
  have S1_n:=hG1.n
  try simp[h,X1,X2,X3,n1,n2] at S1_n
  have S1_gl:=hG1.gl
  try simp[h,X1,X2,X3,n1,n2,S1_n] at S1_gl
  have S1_md:=hG1.md
  try simp[h,X1,X2,X3,n1,n2,S1_n,S1_gl] at S1_md
  have S1_nx:=hG1.nx
  try simp[h,X1,X2,X3,n1,n2,S1_n,S1_gl,S1_md] at S1_nx
  have S1_rd:=hG1.rd
  have u_S1:=hG1.old u (by first | omega | (simp;omega)) (by omega)
  try simp[h,X1,X2,X3,n1,n2,S1_n,S1_gl,S1_md,S1_rd] at u_S1
  have S1_o:∀ y,y<N→y≠R→S1.B y=Sr.B y:=fun y k1 k2=>by
    have a1:=hG1.old y (by first | omega | (simp;omega)) k2
    have y1:¬ y=u:=by omega
    try simp[y1] at a1
    exact a1.trans (hrO y k1 k2)
  have S1_t:∀ y,y<N→S1.T y=Sr.T y:=fun y k1=>by
    have a1:=hG1.T y (by first | omega | (simp;omega))
    try simp at a1
    exact a1.trans (hrT y k1)
  simp[h,X1,X2,X3,n1,n2,S1_n,S1_gl,S1_md,S1_rd,u_S1]
  refine CallT.x (x_pick _ R c (p+1) 3 (by first | omega | (simp;omega)) (by simp[h,X1,X2,X3,n1,n2,S1_n,S1_gl,S1_md,S1_rd,u_S1]) hc (by omega) (by omega) (by omega)) rfl (fun r2 S2 h2=>?_)
  obtain⟨q2,hG2⟩:=h2
  subst q2
  have S2_n:=hG2.n
  try simp[h,X1,X2,X3,n1,n2,S1_n,S1_gl,S1_md,S1_rd,u_S1] at S2_n
  have S2_gl:=hG2.gl
  try simp[h,X1,X2,X3,n1,n2,S1_n,S1_gl,S1_md,S1_rd,u_S1,S2_n] at S2_gl
  have S2_md:=hG2.md
  try simp[h,X1,X2,X3,n1,n2,S1_n,S1_gl,S1_md,S1_rd,u_S1,S2_n,S2_gl] at S2_md
  have S2_nx:=hG2.nx
  try simp[h,X1,X2,X3,n1,n2,S1_n,S1_gl,S1_md,S1_rd,u_S1,S2_n,S2_gl,S2_md] at S2_nx
  have S2_rd:=hG2.rd
  have u_S2:=hG2.old u (by first | omega | (simp;omega)) (by omega)
  try simp[h,X1,X2,X3,n1,n2,S1_n,S1_gl,S1_md,S1_rd,u_S1,S2_n,S2_gl,S2_md,S2_rd] at u_S2
  have S2_o:∀ y,y<N→y≠R→S2.B y=Sr.B y:=fun y k1 k2=>by
    have a1:=hG2.old y (by first | omega | (simp;omega)) k2
    have y1:¬ y=u:=by omega
    try simp[y1] at a1
    exact a1.trans (S1_o y k1 k2)
  have S2_t:∀ y,y<N→S2.T y=Sr.T y:=fun y k1=>by
    have a1:=hG2.T y (by first | omega | (simp;omega))
    try simp at a1
    exact a1.trans (S1_t y k1)
  simp[h,X1,X2,X3,n1,n2,S1_n,S1_gl,S1_md,S1_rd,u_S1,S2_n,S2_gl,S2_md,S2_rd,u_S2]
  obtain⟨v,hv⟩:∃ v,u+1+7=v:=⟨_,rfl⟩
  rw[hv]
  have n3:¬ R=v:=by omega
  have n4:¬ v=R:=by omega
  have n5:¬ u=v:=by omega
  have n6:¬ v=u:=by omega
  refine CallT.x (x_one _ R c (p+2) _ [0,0,0,1,1,2] (.inl rfl) (by simp) (by simp) (by first | omega | (simp;omega)) (by simp[h,X1,X2,X3,n1,n2,S1_n,S1_gl,S1_md,S1_rd,u_S1,S2_n,S2_gl,S2_md,S2_rd,u_S2,n3,n4,n5,n6]) hc (by omega)) rfl (fun r3 S3 h3=>?_)
  obtain⟨q3,hG3⟩:=h3
  subst q3
  have S3_n:=hG3.n
  try simp[h,X1,X2,X3,n1,n2,S1_n,S1_gl,S1_md,S1_rd,u_S1,S2_n,S2_gl,S2_md,S2_rd,u_S2,n3,n4,n5,n6] at S3_n
  have S3_gl:=hG3.gl
  try simp[h,X1,X2,X3,n1,n2,S1_n,S1_gl,S1_md,S1_rd,u_S1,S2_n,S2_gl,S2_md,S2_rd,u_S2,n3,n4,n5,n6,S3_n] at S3_gl
  have S3_md:=hG3.md
  try simp[h,X1,X2,X3,n1,n2,S1_n,S1_gl,S1_md,S1_rd,u_S1,S2_n,S2_gl,S2_md,S2_rd,u_S2,n3,n4,n5,n6,S3_n,S3_gl] at S3_md
  have S3_nx:=hG3.nx
  try simp[h,X1,X2,X3,n1,n2,S1_n,S1_gl,S1_md,S1_rd,u_S1,S2_n,S2_gl,S2_md,S2_rd,u_S2,n3,n4,n5,n6,S3_n,S3_gl,S3_md] at S3_nx
  have S3_rd:=hG3.rd
  have u_S3:=hG3.old u (by first | omega | (simp;omega)) (by omega)
  try simp[h,X1,X2,X3,n1,n2,S1_n,S1_gl,S1_md,S1_rd,u_S1,S2_n,S2_gl,S2_md,S2_rd,u_S2,n3,n4,n5,n6,S3_n,S3_gl,S3_md,S3_rd] at u_S3
  have v_S3:=hG3.old v (by first | omega | (simp;omega)) (by omega)
  try simp[h,X1,X2,X3,n1,n2,S1_n,S1_gl,S1_md,S1_rd,u_S1,S2_n,S2_gl,S2_md,S2_rd,u_S2,n3,n4,n5,n6,S3_n,S3_gl,S3_md,S3_rd,u_S3] at v_S3
  have S3_o:∀ y,y<N→y≠R→S3.B y=Sr.B y:=fun y k1 k2=>by
    have a1:=hG3.old y (by first | omega | (simp;omega)) k2
    have y1:¬ y=u:=by omega
    have y2:¬ y=v:=by omega
    try simp[y1,y2] at a1
    exact a1.trans (S2_o y k1 k2)
  have S3_t:∀ y,y<N→S3.T y=Sr.T y:=fun y k1=>by
    have a1:=hG3.T y (by first | omega | (simp;omega))
    try simp at a1
    exact a1.trans (S2_t y k1)
  have hk:oneK c (p+2) [0,0,0,1,1,2]=0∨oneK c (p+2) [0,0,0,1,1,2]=1∨oneK c (p+2) [0,0,0,1,1,2]=2:=by
    have:=oneK_mem c (p+2) (l:=[0,0,0,1,1,2]) (by simp)
    simpa using this
  obtain⟨k0,hk0,hk2⟩:∃ k0:Nat,oneK c (p+2) [0,0,0,1,1,2]=k0∧k0≤2:=by
    rcases hk with h | h | h
    · exact⟨0,h,by omega⟩
    · exact⟨1,h,by omega⟩
    · exact⟨2,h,by omega⟩
  rw[hk0]
  simp[h,X1,X2,X3,n1,n2,S1_n,S1_gl,S1_md,S1_rd,u_S1,S2_n,S2_gl,S2_md,S2_rd,u_S2,n3,n4,n5,n6,S3_n,S3_gl,S3_md,S3_rd,u_S3,v_S3]
  refine LoopT.round (fun E S=>∃ (k:Nat) (t:Typ) (j:Nat) (q:Nat),(S.B R=some (rdP c q))∧(S.B u=some [.d (dS ⟨#[]⟩), .fl [] 0, .d (dB false)])∧(S.B v=some (typV t))∧(Wrap l j t)∧(j+k≤2)∧(q+k≤p+5)∧(∀ y,y<N→y≠R→S.B y=Sr.B y)∧(∀ y,y<N→S.T y=Sr.T y)∧(v+1≤S.nx)∧E 6=some (.d (dI k))∧E 0=some (.op R 0)∧E 4=some (.op u 0)∧E 5=some (.op v 0)) (fun E S=>match E 6 with | some (.d (.v (.int _ i)))=>i.toNat | _=>0) ⟨k0, .mk (ofK c p l) [] (decide (pickK c (p+1) 3=0)),0,p+3,by simp[h,X1,X2,X3,n1,n2,S1_n,S1_gl,S1_md,S1_rd,u_S1,S2_n,S2_gl,S2_md,S2_rd,u_S2,n3,n4,n5,n6,S3_n,S3_gl,S3_md,S3_rd,u_S3,v_S3];exact⟨rfl,⟨_,_,rfl,ho⟩,hk2,by omega,S3_o,S3_t,by omega⟩⟩ ?_
  rintro E S hk ⟨k,t,j,q,hrd,hBu,hBv,hW,hjk,hqk,hrO2,hrT2,hnx,h6,h0,h4,h5⟩
  have hn:S.n=28:=by first | (simpa using hk.n)|(have hh:=hk.n;simp[h,X1,X2,X3,n1,n2,S1_n,S1_gl,S1_md,S1_rd,u_S1,S2_n,S2_gl,S2_md,S2_rd,u_S2,n3,n4,n5,n6,S3_n,S3_gl,S3_md,S3_rd,u_S3,v_S3] at hh;exact hh)
  have hg:S.gl=S0.gl:=by first | (simpa using hk.gl)|(have hh:=hk.gl;simp[h,X1,X2,X3,n1,n2,S1_n,S1_gl,S1_md,S1_rd,u_S1,S2_n,S2_gl,S2_md,S2_rd,u_S2,n3,n4,n5,n6,S3_n,S3_gl,S3_md,S3_rd,u_S3,v_S3] at hh;exact hh)
  have hmd:S.md=[]:=by first | (simpa using hk.md)|(have hh:=hk.md;simp[h,X1,X2,X3,n1,n2,S1_n,S1_gl,S1_md,S1_rd,u_S1,S2_n,S2_gl,S2_md,S2_rd,u_S2,n3,n4,n5,n6,S3_n,S3_gl,S3_md,S3_rd,u_S3,v_S3] at hh;exact hh)
  simp[h,X1,X2,X3,n1,n2,S1_n,S1_gl,S1_md,S1_rd,u_S1,S2_n,S2_gl,S2_md,S2_rd,u_S2,n3,n4,n5,n6,S3_n,S3_gl,S3_md,S3_rd,u_S3,v_S3,h6,h0,h4,h5,hn,hg,hmd]
  obtain⟨s,lt,b⟩:=t
  simp only[typV] at hBv
  refine BrT.dec (fun c0=>?_) (fun c0=>?_)
  · simp[h,X1,X2,X3,n1,n2,S1_n,S1_gl,S1_md,S1_rd,u_S1,S2_n,S2_gl,S2_md,S2_rd,u_S2,n3,n4,n5,n6,S3_n,S3_gl,S3_md,S3_rd,u_S3,v_S3,h6,h0,h4,h5,hn,hg,hmd,hrd,hBu,hBv,c0]
    refine⟨DrawT.mk (by kernel_rfl),?_⟩
    obtain⟨r5,S5,hL5,q5,hG5⟩:=x_pick ((S.adv 2).adv 7) R c q 4 (by first | omega | (simp;omega)) (by simp[h,X1,X2,X3,n1,n2,S1_n,S1_gl,S1_md,S1_rd,u_S1,S2_n,S2_gl,S2_md,S2_rd,u_S2,n3,n4,n5,n6,S3_n,S3_gl,S3_md,S3_rd,u_S3,v_S3,h6,h0,h4,h5,hn,hg,hmd,hrd,hBu,hBv,c0]) hc (by omega) (by omega) (by omega)
    subst q5
    have S5_n:=hG5.n
    try simp[h,X1,X2,X3,n1,n2,S1_n,S1_gl,S1_md,S1_rd,u_S1,S2_n,S2_gl,S2_md,S2_rd,u_S2,n3,n4,n5,n6,S3_n,S3_gl,S3_md,S3_rd,u_S3,v_S3,h6,h0,h4,h5,hn,hg,hmd,hrd,hBu,hBv,c0] at S5_n
    have S5_gl:=hG5.gl
    try simp[h,X1,X2,X3,n1,n2,S1_n,S1_gl,S1_md,S1_rd,u_S1,S2_n,S2_gl,S2_md,S2_rd,u_S2,n3,n4,n5,n6,S3_n,S3_gl,S3_md,S3_rd,u_S3,v_S3,h6,h0,h4,h5,hn,hg,hmd,hrd,hBu,hBv,c0,S5_n] at S5_gl
    have S5_md:=hG5.md
    try simp[h,X1,X2,X3,n1,n2,S1_n,S1_gl,S1_md,S1_rd,u_S1,S2_n,S2_gl,S2_md,S2_rd,u_S2,n3,n4,n5,n6,S3_n,S3_gl,S3_md,S3_rd,u_S3,v_S3,h6,h0,h4,h5,hn,hg,hmd,hrd,hBu,hBv,c0,S5_n,S5_gl] at S5_md
    have S5_nx:=hG5.nx
    try simp[h,X1,X2,X3,n1,n2,S1_n,S1_gl,S1_md,S1_rd,u_S1,S2_n,S2_gl,S2_md,S2_rd,u_S2,n3,n4,n5,n6,S3_n,S3_gl,S3_md,S3_rd,u_S3,v_S3,h6,h0,h4,h5,hn,hg,hmd,hrd,hBu,hBv,c0,S5_n,S5_gl,S5_md] at S5_nx
    have S5_rd:=hG5.rd
    have u_S5:=hG5.old u (by first | omega | (simp;omega)) (by omega)
    try simp[h,X1,X2,X3,n1,n2,S1_n,S1_gl,S1_md,S1_rd,u_S1,S2_n,S2_gl,S2_md,S2_rd,u_S2,n3,n4,n5,n6,S3_n,S3_gl,S3_md,S3_rd,u_S3,v_S3,h6,h0,h4,h5,hn,hg,hmd,hrd,hBu,hBv,c0,S5_n,S5_gl,S5_md,S5_rd] at u_S5
    have v_S5:=hG5.old v (by first | omega | (simp;omega)) (by omega)
    try simp[h,X1,X2,X3,n1,n2,S1_n,S1_gl,S1_md,S1_rd,u_S1,S2_n,S2_gl,S2_md,S2_rd,u_S2,n3,n4,n5,n6,S3_n,S3_gl,S3_md,S3_rd,u_S3,v_S3,h6,h0,h4,h5,hn,hg,hmd,hrd,hBu,hBv,c0,S5_n,S5_gl,S5_md,S5_rd,u_S5] at v_S5
    have S5_o:∀ y,y<N→y≠R→S5.B y=Sr.B y:=fun y k1 k2=>by
      have a1:=hG5.old y (by first | omega | (simp;omega)) k2
      have y1:¬ y=u:=by omega
      have y2:¬ y=v:=by omega
      try simp[y1,y2] at a1
      exact a1.trans (hrO2 y k1 k2)
    have S5_t:∀ y,y<N→S5.T y=Sr.T y:=fun y k1=>by
      have a1:=hG5.T y (by first | omega | (simp;omega))
      try simp at a1
      exact a1.trans (hrT2 y k1)
    refine CallT.calm [((0,5),3)] (by kernel_rfl) (by kernel_rfl) hL5 ?_ ?_
    · simp[h,X1,X2,X3,n1,n2,S1_n,S1_gl,S1_md,S1_rd,u_S1,S2_n,S2_gl,S2_md,S2_rd,u_S2,n3,n4,n5,n6,S3_n,S3_gl,S3_md,S3_rd,u_S3,v_S3,h6,h0,h4,h5,hn,hg,hmd,hrd,hBu,hBv,c0,S5_n,S5_gl,S5_md,S5_rd,u_S5,v_S5,Eh.e,refOf]
    simp[h,X1,X2,X3,n1,n2,S1_n,S1_gl,S1_md,S1_rd,u_S1,S2_n,S2_gl,S2_md,S2_rd,u_S2,n3,n4,n5,n6,S3_n,S3_gl,S3_md,S3_rd,u_S3,v_S3,h6,h0,h4,h5,hn,hg,hmd,hrd,hBu,hBv,c0,S5_n,S5_gl,S5_md,S5_rd,u_S5,v_S5]
    obtain⟨k',rfl⟩:∃ k',k=k'+1:=⟨k - 1,by omega⟩
    have w1:=wrap64 (n:=(k':Int)) (by omega) (by omega)
    have w2:((k'+1:Nat):Int) - 1=(k':Int):=by omega
    simp[h,X1,X2,X3,n1,n2,S1_n,S1_gl,S1_md,S1_rd,u_S1,S2_n,S2_gl,S2_md,S2_rd,u_S2,n3,n4,n5,n6,S3_n,S3_gl,S3_md,S3_rd,u_S3,v_S3,h6,h0,h4,h5,hn,hg,hmd,hrd,hBu,hBv,c0,S5_n,S5_gl,S5_md,S5_rd,u_S5,v_S5,w1,w2]
    refine⟨⟨k', .mk ⟨#[]⟩ [.mk s lt b] (decide (pickK c q 4=0)),j+1,q+1,by omega,by simp[typV,typsCells,Typ.cells],⟨_,_,rfl,hW⟩,by omega,by omega,fun y k1 k2=>?_,S5_t,by omega,rfl⟩,by omega⟩
    rw[if_neg (by omega)]
    exact S5_o y k1 k2
  · simp[h,X1,X2,X3,n1,n2,S1_n,S1_gl,S1_md,S1_rd,u_S1,S2_n,S2_gl,S2_md,S2_rd,u_S2,n3,n4,n5,n6,S3_n,S3_gl,S3_md,S3_rd,u_S3,v_S3,h6,h0,h4,h5,hn,hg,hmd,hrd,hBu,hBv,c0]
    have hk0:k=0:=by omega
    subst hk0
    refine⟨.mk s lt b,rfl,j,hW,by omega,q,⟨rfl,rfl,rfl,by simp;omega,by simp[h,X1,X2,X3,n1,n2,S1_n,S1_gl,S1_md,S1_rd,u_S1,S2_n,S2_gl,S2_md,S2_rd,u_S2,n3,n4,n5,n6,S3_n,S3_gl,S3_md,S3_rd,u_S3,v_S3,h6,h0,h4,h5,hn,hg,hmd,hrd,hBu,hBv,c0],?_,?_, .nil⟩,by omega⟩
    · intro y k1 k2
      have z1:¬ y=u:=by omega
      simp[z1]
      exact (hrO2 y (by omega) k2).trans (by rw[hSr])
    · intro y k1
      exact (hrT2 y (by omega)).trans (by rw[hSr])
end Go.Proofs.YtlmpjblmmpddeaaGreat
