/- Iter and what follows it, one behind another. -/
import Derived.Shelf.SlIter.Nil
import Derived.Shelf.SortM.Plain
import Derived.Shelf.SortM.SortNone
import Derived.Ground.GgzProg
import Derived.Ground.SlgmProg
import Derived.Test.YtlmpjblmmpddeaaGreatProg
import Derived.Test.YtlmpjblmmpddeaaGreatMg5
import Derived.Test.YtlmpjblmmpddeaaGreatMg4
import Derived.Test.YtlmpjblmmpddeaaGreatMg6
import Derived.Test.YtlmpjblmmpddeaaGreatMpRowFnSchemaUsed1
import Derived.Test.YtlmpjblmmpddeaaGreatMg8
namespace Go.Proofs
open Go.Shelf
def Tryz.keys96_ren:Go.Shelf.Ren:=⟨fun | 7=>96 | 10=>151 | n=>n,fun | 23=>123 | 26=>9 | 3=>3 | 28=>127 | 0=>0 | 27=>126 | 33=>81 | 4=>4 | n=>n,fun | n=>n⟩
theorem Tryz.keys96:Go.Proofs.SlLaysZ.n7 Tryz.prog Tryz.keys96_ren:={
  mixed:=by kernel_rfl
  f7:=⟨Tryz.f96.name,by decide,Tryz.func96.trans (congrArg some (by kernel_rfl))⟩
  f10:=⟨Tryz.f151.name,by decide,Tryz.func151.trans (congrArg some (by kernel_rfl))⟩
  t0:=Tryz.underlying0
  a0:=Tryz.isAgg0
  z0:=Tryz.sizeOf0
  v0:=Tryz.zeroValue0
  t4:=Tryz.underlying4
  a4:=Tryz.isAgg4
  z4:=Tryz.sizeOf4
  v4:=Tryz.zeroValue4
  t23:=Tryz.underlying123
  a23:=Tryz.isAgg123
  z23:=Tryz.sizeOf123
  v23:=Tryz.zeroValue123
  t26:=Tryz.underlying9
  a26:=Tryz.isAgg9
  z26:=Tryz.sizeOf9
  v26:=Tryz.zeroValue9
  t27:=Tryz.underlying126
  a27:=Tryz.isAgg126
  z27:=Tryz.sizeOf126
  v27:=Tryz.zeroValue126
  t28:=Tryz.underlying127
  a28:=Tryz.isAgg127
  z28:=Tryz.sizeOf127
  v28:=Tryz.zeroValue127
  t33:=Tryz.underlying81
  a33:=Tryz.isAgg81
  z33:=Tryz.sizeOf81
  v33:=Tryz.zeroValue81 }
def Tryz.sorted95_ren:Go.Shelf.Ren:=⟨fun | 6=>95 | 8=>149 | 9=>150 | 11=>183 | 13=>185 | 12=>184 | 23=>215 | 24=>216 | 14=>206 | 15=>207 | 16=>208 | 17=>209 | 18=>210 | 19=>211 | 20=>212 | 21=>213 | 22=>214 | 25=>231 | 26=>232 | 27=>233 | 28=>234 | 29=>235 | 30=>236 | 31=>243 | n=>n,fun | 26=>9 | 28=>127 | 24=>27 | 0=>0 | 3=>3 | 37=>214 | 48=>234 | 50=>236 | 4=>4 | 40=>227 | 39=>226 | 45=>231 | 5=>5 | 9=>9 | 51=>257 | 55=>261 | 57=>273 | 58=>274 | 33=>81 | n=>n,fun | n=>n⟩
theorem Tryz.sorted95:Go.Proofs.SlLaysZ.n6 Tryz.prog Tryz.sorted95_ren:={
  mixed:=by kernel_rfl
  f6:=⟨Tryz.f95.name,by decide,Tryz.func95.trans (congrArg some (by kernel_rfl))⟩
  f8:=⟨Tryz.f149.name,by decide,Tryz.func149.trans (congrArg some (by kernel_rfl))⟩
  f11:=⟨Tryz.f183.name,by decide,Tryz.func183.trans (congrArg some (by kernel_rfl))⟩
  t0:=Tryz.underlying0
  a0:=Tryz.isAgg0
  z0:=Tryz.sizeOf0
  v0:=Tryz.zeroValue0
  t24:=Tryz.underlying27
  a24:=Tryz.isAgg27
  z24:=Tryz.sizeOf27
  v24:=Tryz.zeroValue27
  t26:=Tryz.underlying9
  a26:=Tryz.isAgg9
  z26:=Tryz.sizeOf9
  v26:=Tryz.zeroValue9
  t28:=Tryz.underlying127
  a28:=Tryz.isAgg127
  z28:=Tryz.sizeOf127
  v28:=Tryz.zeroValue127
  i26:=by kernel_rfl }
def Tryz.sort150_ren:Go.Shelf.Ren:=⟨fun | 6=>150 | 8=>185 | 9=>184 | 19=>215 | 20=>216 | 21=>206 | 22=>207 | 23=>208 | 24=>209 | 25=>210 | 26=>211 | 27=>212 | 28=>213 | 29=>214 | 36=>231 | 31=>232 | 32=>233 | 37=>234 | 38=>235 | 39=>236 | 41=>243 | n=>n,fun | 27=>27 | 29=>9 | 3=>3 | 32=>214 | 26=>27 | 0=>0 | 44=>234 | 46=>236 | 4=>4 | 36=>227 | 35=>226 | 41=>231 | 5=>5 | 9=>9 | 53=>257 | 57=>261 | 63=>273 | 64=>274 | n=>n,fun | n=>n⟩
theorem Tryz.sort150:Go.Proofs.SlLaysM.n6 Tryz.prog Tryz.sort150_ren:={
  mixed:=by kernel_rfl
  f6:=⟨Tryz.f150.name,by decide,Tryz.func150.trans (congrArg some (by kernel_rfl))⟩
  f8:=Tryz.func185.trans (congrArg some (by kernel_rfl))
  f9:=⟨Tryz.f184.name,by decide,Tryz.func184.trans (congrArg some (by kernel_rfl))⟩
  f19:=Tryz.func215.trans (congrArg some (by kernel_rfl))
  f20:=Tryz.func216.trans (congrArg some (by kernel_rfl))
  f21:=⟨Tryz.f206.name,by decide,Tryz.func206.trans (congrArg some (by kernel_rfl))⟩
  f22:=⟨Tryz.f207.name,by decide,Tryz.func207.trans (congrArg some (by kernel_rfl))⟩
  f23:=⟨Tryz.f208.name,by decide,Tryz.func208.trans (congrArg some (by kernel_rfl))⟩
  f24:=⟨Tryz.f209.name,by decide,Tryz.func209.trans (congrArg some (by kernel_rfl))⟩
  f25:=⟨Tryz.f210.name,by decide,Tryz.func210.trans (congrArg some (by kernel_rfl))⟩
  f26:=⟨Tryz.f211.name,by decide,Tryz.func211.trans (congrArg some (by kernel_rfl))⟩
  f27:=⟨Tryz.f212.name,by decide,Tryz.func212.trans (congrArg some (by kernel_rfl))⟩
  f28:=⟨Tryz.f213.name,by decide,Tryz.func213.trans (congrArg some (by kernel_rfl))⟩
  f29:=⟨Tryz.f214.name,by decide,Tryz.func214.trans (congrArg some (by kernel_rfl))⟩
  f31:=Tryz.func232.trans (congrArg some (by kernel_rfl))
  f32:=Tryz.func233.trans (congrArg some (by kernel_rfl))
  f36:=⟨Tryz.f231.name,by decide,Tryz.func231.trans (congrArg some (by kernel_rfl))⟩
  f37:=⟨Tryz.f234.name,by decide,Tryz.func234.trans (congrArg some (by kernel_rfl))⟩
  f38:=⟨Tryz.f235.name,by decide,Tryz.func235.trans (congrArg some (by kernel_rfl))⟩
  f39:=⟨Tryz.f236.name,by decide,Tryz.func236.trans (congrArg some (by kernel_rfl))⟩
  f41:=⟨Tryz.f243.name,by decide,Tryz.func243.trans (congrArg some (by kernel_rfl))⟩
  t0:=Tryz.underlying0
  a0:=Tryz.isAgg0
  z0:=Tryz.sizeOf0
  v0:=Tryz.zeroValue0
  t3:=Tryz.underlying3
  a3:=Tryz.isAgg3
  z3:=Tryz.sizeOf3
  v3:=Tryz.zeroValue3
  t4:=Tryz.underlying4
  a4:=Tryz.isAgg4
  z4:=Tryz.sizeOf4
  v4:=Tryz.zeroValue4
  t5:=Tryz.underlying5
  a5:=Tryz.isAgg5
  z5:=Tryz.sizeOf5
  v5:=Tryz.zeroValue5
  t9:=Tryz.underlying9
  a9:=Tryz.isAgg9
  z9:=Tryz.sizeOf9
  v9:=Tryz.zeroValue9
  t26:=Tryz.underlying27
  a26:=Tryz.isAgg27
  z26:=Tryz.sizeOf27
  v26:=Tryz.zeroValue27
  t27:=Tryz.underlying27
  a27:=Tryz.isAgg27
  z27:=Tryz.sizeOf27
  v27:=Tryz.zeroValue27
  t29:=Tryz.underlying9
  a29:=Tryz.isAgg9
  z29:=Tryz.sizeOf9
  v29:=Tryz.zeroValue9
  t32:=Tryz.underlying214
  a32:=Tryz.isAgg214
  z32:=Tryz.sizeOf214
  v32:=Tryz.zeroValue214
  t35:=Tryz.underlying226
  a35:=Tryz.isAgg226
  z35:=Tryz.sizeOf226
  v35:=Tryz.zeroValue226
  t36:=Tryz.underlying227
  a36:=Tryz.isAgg227
  z36:=Tryz.sizeOf227
  v36:=Tryz.zeroValue227
  t41:=Tryz.underlying231
  a41:=Tryz.isAgg231
  z41:=Tryz.sizeOf231
  v41:=Tryz.zeroValue231
  t44:=Tryz.underlying234
  a44:=Tryz.isAgg234
  z44:=Tryz.sizeOf234
  v44:=Tryz.zeroValue234
  t46:=Tryz.underlying236
  a46:=Tryz.isAgg236
  z46:=Tryz.sizeOf236
  v46:=Tryz.zeroValue236
  t53:=Tryz.underlying257
  a53:=Tryz.isAgg257
  z53:=Tryz.sizeOf257
  v53:=Tryz.zeroValue257
  t57:=Tryz.underlying261
  a57:=Tryz.isAgg261
  z57:=Tryz.sizeOf261
  v57:=Tryz.zeroValue261
  t63:=Tryz.underlying273
  a63:=Tryz.isAgg273
  z63:=Tryz.sizeOf273
  v63:=Tryz.zeroValue273
  t64:=Tryz.underlying274
  a64:=Tryz.isAgg274
  z64:=Tryz.sizeOf274
  v64:=Tryz.zeroValue274 }
end Go.Proofs
set_option linter.unusedVariables false
set_option linter.unusedSimpArgs false
set_option maxRecDepth 100000
namespace Go.Proofs.YtlmpjblmmpddeaaGreat
open Go.Sh Go.Maps Go.Proofs
open Go.RowKit (Below)
open Go.WideElems (Fit rd rg rd_mk rg_of)
variable {gl:Nat→Option D}
section
open Go.Sort Go.Shelf
theorem sorts_here (m:Nat):AnyZ.SortsIn Tryz.prog Tryz.sorted95_ren Fence.wide m :=
  ⟨fun blk off cap ss W hH hblk hsz=>callsIn_wide.2 (AnyM.slices_Sort_string Tryz.sort150 blk off cap ss W hH hblk hsz),
   fun p cap W=>callsIn_wide.2 (AnyM.slices_Sort_string_none Tryz.sort150 p cap W)⟩
end
abbrev bsL (s:ByteArray):List UInt8:=s.data.toList
def ofL (l:List UInt8):ByteArray:=⟨l.toArray⟩
@[simp] theorem ofL_bsL (s:ByteArray):ofL (bsL s)=s:=by cases s;rfl
@[simp] theorem bsL_ofL (l:List UInt8):bsL (ofL l)=l:=by simp[ofL,bsL]
def sortN (ns:List ByteArray):List ByteArray:=((ns.map bsL).mergeSort leB).map ofL
theorem sortN_len (ns:List ByteArray):(sortN ns).length=ns.length:=by simp[sortN]
theorem sortN_perm (ns:List ByteArray):(sortN ns).Perm ns:=by
  have h:=(List.mergeSort_perm (ns.map bsL) leB).map ofL
  rw[List.map_map] at h
  simpa[sortN,Function.comp_def] using h
def noR:Value→Option (DataW Unit×List MemPlace):=fun _=>some (.nil,[])
theorem fit_names {P:Program}{ns:List ByteArray}{es:Array MapEntry}{T:TypeId} (hT:P.underlying T=some .string) (hlen:es.size=ns.length) (hborn:∀ j (h:j<es.size),es[j].born=j) (hk:∀ j (h:j<ns.length) (h':j<es.size),es[j].key=.string ns[j])
    (hnd:ns.Nodup) (hok:NamesOk ns):Fit P T noR es es.size∧es.toList.map (rg P T noR)=ns.map (fun s=>(.string (bsL s), .nil)):=by
  have hkey:∀ j (h:j<ns.length) (h':j<es.size),keyOf P T es[j].key=some (.string (bsL ns[j])):=fun j h h'=>by
    have h1:ns[j].size≤maxLen:=by have:=hok.2 _ (List.getElem_mem h);simp only[maxLen];omega
    simp[keyOf,mapKey,hT,hk j h h',h1]
  have hrd:∀ j (h:j<ns.length) (h':j<es.size),rd P T noR es[j]=some (.string (bsL ns[j]), .nil):=fun j h h'=>by
    have:=rd_mk (P:=P) (k:=T) (R:=noR) (key:=es[j].key) (val:=es[j].val) (born:=es[j].born) (hkey j h h') rfl
    simpa using this
  refine⟨⟨by have:=hok.1;simp[maxLen];omega,⟨fun x hx=>?_,?_,?_⟩,fun x hx=>?_⟩,?_⟩
  · obtain⟨j,hj,rfl⟩:=List.getElem_of_mem hx
    simp only[Array.length_toList] at hj
    simp only[Array.getElem_toList]
    rw[hborn j hj];exact hj
  · rw[List.nodup_iff_pairwise_ne,List.pairwise_map,List.pairwise_iff_getElem]
    intro i j hi hj hij
    simp only[Array.length_toList] at hi hj
    simp only[Array.getElem_toList,hborn i hi,hborn j hj]
    omega
  · rw[List.nodup_iff_pairwise_ne,List.pairwise_map,List.pairwise_iff_getElem]
    intro i j hi hj hij
    simp only[Array.length_toList] at hi hj
    simp only[Array.getElem_toList,hk i (by omega) hi,hk j (by omega) hj]
    intro e
    have e:ns[i]'(by omega)=ns[j]'(by omega):=by simpa using e
    have:=(List.nodup_iff_pairwise_ne.1 hnd)
    rw[List.pairwise_iff_getElem] at this
    exact this i j (by omega) (by omega) hij e
  · obtain⟨j,hj,rfl⟩:=List.getElem_of_mem hx
    simp only[Array.length_toList] at hj
    exact⟨_,by simpa using hrd j (by omega) hj⟩
  · apply List.ext_getElem
    · simp[hlen]
    · intro j h1 h2
      simp only[List.length_map,Array.length_toList] at h1 h2
      simp only[List.getElem_map,Array.getElem_toList]
      exact rg_of (hrd j h2 h1)
theorem keys_names {P:Program}{ns:List ByteArray}{es:Array MapEntry}{T:TypeId} (h:es.toList.map (rg P T noR)=ns.map (fun s=>(.string (bsL s), .nil))) :
    (strKeys (DataW.map ((es.toList.map (rg P T noR)).foldr DataW.insert []))).Perm (ns.map bsL):=by
  show (((es.toList.map (rg P T noR)).foldr DataW.insert []).map fun p=>strOf p.1).Perm _
  refine ((Go.WideShapes.sorted_perm _).map _).trans ?_
  rw[h,List.map_map]
  exact List.Perm.of_eq (List.map_congr_left fun s _=>rfl)
end Go.Proofs.YtlmpjblmmpddeaaGreat
namespace Go.Proofs.YtlmpjblmmpddeaaGreat
open Go.Sh Go.Maps Go.Proofs
def ltN (a b:ByteArray):Bool:=Op.bytesLess a.toList b.toList
theorem less_dec:∀ (x y:List UInt8),Op.bytesLess x y=decide (x<y)
  | [],[]=>by simp[Op.bytesLess]
  | _::_,[]=>by simp[Op.bytesLess]
  | [],_::_=>by simp[Op.bytesLess]
  | a::x,b::y=>by
    rw[Op.bytesLess,less_dec x y]
    simp only[List.cons_lt_cons_iff]
    by_cases h1:a<b<;>by_cases h2:a=b<;>by_cases h3:x<y<;>simp[h1,h2,h3]
theorem ltN_iff {a b:ByteArray}:ltN a b=true↔bsL a<bsL b:=by
  unfold ltN
  rw[less_dec,Go.ByteArray.toList_eq,Go.ByteArray.toList_eq,decide_eq_true_eq]
theorem bsL_inj {a b:ByteArray} (h:bsL a=bsL b):a=b:=by rw[← ofL_bsL a,h,ofL_bsL]
def putK (l:List ByteArray) (s:ByteArray):Nat:=(l.takeWhile fun x=>ltN x s).length
def putN (l:List ByteArray) (s:ByteArray):List ByteArray:=if l[putK l s]?=some s then l else l.take (putK l s)++s::l.drop (putK l s)
theorem putK_le (l:List ByteArray) (s:ByteArray):putK l s≤l.length:=(List.takeWhile_sublist _).length_le
theorem putK_lt {l:List ByteArray}{s:ByteArray}{i:Nat} (h:i<putK l s) (hi:i<l.length):ltN l[i] s=true:=by
  induction l generalizing i with
  | nil=>cases hi
  | cons x r ih =>
    unfold putK at h
    rw[List.takeWhile_cons] at h
    split at h
    · rename_i hx
      cases i with
      | zero=>exact hx
      | succ i=>exact ih (by simpa[putK] using h) (by simpa using hi)
    · simp at h
theorem putK_at {l:List ByteArray}{s:ByteArray} (hi:putK l s<l.length):ltN l[putK l s] s=false:=by
  induction l with
  | nil=>cases hi
  | cons x r ih =>
    by_cases hx:ltN x s=true
    · have e:putK (x::r) s=putK r s+1:=by unfold putK;rw[List.takeWhile_cons,if_pos hx,List.length_cons]
      simp only[e] at hi ⊢
      rw[List.getElem_cons_succ]
      exact ih (by simpa using hi)
    · have e:putK (x::r) s=0:=by unfold putK;rw[List.takeWhile_cons,if_neg hx];rfl
      simp only[e]
      simpa using hx
theorem putK_ge {l:List ByteArray}{s:ByteArray}{i:Nat} (hi:i≤l.length) (h:∀ j (hj:j<i),ltN (l[j]'(by omega)) s=true):i≤putK l s:=by
  apply Decidable.byContradiction
  intro hn
  have hlt:putK l s<i:=by omega
  have:=putK_at (l:=l) (s:=s) (by omega)
  rw[h _ hlt] at this
  cases this
abbrev sortedN (l:List ByteArray):Prop:=l.Pairwise fun a b=>bsL a≤bsL b
theorem sortN_sorted (ns:List ByteArray):sortedN (sortN ns):=by
  have tr:∀ a b c:List UInt8,leB a b=true→leB b c=true→leB a c=true:=fun a b c h1 h2=>by simp only[leB,decide_eq_true_eq] at *;exact List.le_trans h1 h2
  have to:∀ a b:List UInt8,(leB a b || leB b a)=true:=fun a b=>by simp only[leB,Bool.or_eq_true,decide_eq_true_eq];exact List.le_total a b
  have h:=List.pairwise_mergeSort (le:=leB) tr to (ns.map bsL)
  unfold sortedN sortN
  rw[List.pairwise_map]
  exact h.imp fun {a b} hab=>by simpa using hab
theorem sorted_eq {a b:List ByteArray} (h:a.Perm b) (ha:sortedN a) (hb:sortedN b):a=b :=
  List.Perm.eq_of_pairwise (le:=fun x y=>bsL x≤bsL y) (fun x y _ _ h1 h2=>bsL_inj (List.le_antisymm h1 h2)) ha hb h
theorem put_perm (l:List ByteArray) (s:ByteArray) (h:¬ s∈l):(putN l s).Perm (l++[s]):=by
  have hn:¬ l[putK l s]?=some s:=fun e=>h (List.mem_of_getElem? e)
  unfold putN
  rw[if_neg hn]
  have:(l.take (putK l s)++s::l.drop (putK l s)).Perm (s::(l.take (putK l s)++l.drop (putK l s))):=List.perm_middle
  rw[List.take_append_drop] at this
  exact this.trans (List.perm_append_singleton s l).symm
theorem put_sorted {l:List ByteArray} (s:ByteArray) (hl:sortedN l) (h:¬ s∈l):sortedN (putN l s):=by
  have hn:¬ l[putK l s]?=some s:=fun e=>h (List.mem_of_getElem? e)
  unfold putN
  rw[if_neg hn]
  have ahead:∀ x∈l.take (putK l s),bsL x≤bsL s:=fun x hx=>by
    obtain⟨i,hi,rfl⟩:=List.getElem_of_mem hx
    rw[List.length_take] at hi
    rw[List.getElem_take]
    exact List.le_of_lt (ltN_iff.1 (putK_lt (by omega) (by omega)))
  have behind:∀ x∈l.drop (putK l s),bsL s≤bsL x:=fun x hx=>by
    obtain⟨i,hi,rfl⟩:=List.getElem_of_mem hx
    rw[List.length_drop] at hi
    rw[List.getElem_drop]
    have h0:=putK_at (l:=l) (s:=s) (by omega)
    have h1:bsL s≤bsL l[putK l s]:=by
      apply Decidable.byContradiction
      intro hc
      rw[ltN_iff.2 (List.not_le.1 hc)] at h0
      cases h0
    cases i with
    | zero=>exact h1
    | succ i=>exact List.le_trans h1 ((List.pairwise_iff_getElem.1 hl) _ _ (by omega) (by omega) (by omega))
  refine List.pairwise_append.2 ⟨List.Pairwise.sublist (List.take_sublist _ _) hl,List.pairwise_cons.2 ⟨behind,List.Pairwise.sublist (List.drop_sublist _ _) hl⟩,fun x hx y hy=>?_⟩
  rcases List.mem_cons.1 hy with rfl | hy
  · exact ahead x hx
  · exact List.le_trans (ahead x hx) (behind y hy)
theorem mem_sortN {ns:List ByteArray}{s:ByteArray}:s∈sortN ns↔s∈ns:=(sortN_perm ns).mem_iff
theorem memB_sortN (ns:List ByteArray) (s:ByteArray):memB s (sortN ns)=memB s ns:=by
  rw[Bool.eq_iff_iff,memB_iff,memB_iff,mem_sortN]
theorem put_sort {ns:List ByteArray}{s:ByteArray} (h:¬ s∈ns):putN (sortN ns) s=sortN (ns++[s]):=by
  have hm:¬ s∈sortN ns:=fun e=>h (mem_sortN.1 e)
  refine sorted_eq ?_ (put_sorted s (sortN_sorted ns) hm) (sortN_sorted _)
  exact (put_perm _ _ hm).trans (((sortN_perm ns).append_right [s]).trans (sortN_perm (ns++[s])).symm)
end Go.Proofs.YtlmpjblmmpddeaaGreat
namespace Go.Proofs.YtlmpjblmmpddeaaGreat
open Go.Sh
variable {gl:Nat→Option D}
abbrev Cnt:=List (ByteArray×Int)
def ksM (m:Cnt):List D:=m.map fun p=>dS p.1
def vsM (m:Cnt):List SV:=m.map fun p=>SV.d (dI p.2)
def posM (m:Cnt) (s:ByteArray):Option Nat:=m.findIdx? fun p=>decide (p.1=s)
theorem idx_m (m:Cnt) (s:ByteArray):idxK (ksM m) s=some (posM m s):=idxK_map Prod.fst s m
theorem pos_lt {m:Cnt}{s:ByteArray}{j:Nat} (h:posM m s=some j):j<m.length:=(List.findIdx?_eq_some_iff_getElem.1 h).1
theorem pos_name {m:Cnt}{s:ByteArray}{j:Nat} (h:posM m s=some j):(m[j]'(pos_lt h)).1=s:=by
  obtain⟨h1,h2,_⟩:=List.findIdx?_eq_some_iff_getElem.1 h
  simpa using h2
def bumpM (m:Cnt) (s:ByteArray):Cnt:=match posM m s with
  | some j=>m.set j (s,IntKind.i64.wrap ((m.getD j (s,0)).2+1))
  | none=>m++[(s,1)]
theorem bump_some {m:Cnt}{s:ByteArray}{j:Nat} (h:posM m s=some j):ksM (bumpM m s)=ksM m∧vsM (bumpM m s)=(vsM m).set j (.d (dI (IntKind.i64.wrap ((m[j]'(pos_lt h)).2+1)))):=by
  have hj:=pos_lt h
  have hn:=pos_name h
  unfold bumpM
  rw[h]
  simp only[ksM,vsM,List.map_set]
  constructor
  · have:(List.map (fun p=>dS p.1) m)[j]'(by simpa using hj)=dS s:=by simp[hn]
    rw[← this,List.set_getElem_self]
  · rw[List.getD_eq_getElem?_getD,List.getElem?_eq_getElem hj];rfl
theorem bump_none {m:Cnt}{s:ByteArray} (h:posM m s=none):ksM (bumpM m s)=ksM m++[dS s]∧vsM (bumpM m s)=vsM m++[.d (dI 1)]:=by
  unfold bumpM
  rw[h]
  simp[ksM,vsM]
theorem foldl_next {α β:Type} (f:β→α→β) (b:β) {l:List α}{i:Nat} (hi:i<l.length):(l.take (i+1)).foldl f b=f ((l.take i).foldl f b) l[i]:=by
  rw[List.take_succ_eq_append_getElem hi,List.foldl_append];rfl
def oneM (k:List ByteArray):Cnt:=k.map fun x=>(x,1)
theorem pos_one (k:List ByteArray) (s:ByteArray):(posM (oneM k) s).isSome=memB s k:=by
  rw[Bool.eq_iff_iff,memB_iff]
  unfold posM oneM
  rw[List.findIdx?_isSome,List.any_map,List.any_eq_true]
  constructor
  · rintro ⟨x,hx,e⟩;simp at e;exact e▸hx
  · intro h;exact⟨s,h,by simp⟩
theorem one_val {k:List ByteArray}{j:Nat} (h:j<(oneM k).length):((oneM k)[j]).2=1:=by simp[oneM]
theorem bump_one {k:List ByteArray}{s:ByteArray} (h:memB s k=false):bumpM (oneM k) s=oneM (k++[s]):=by
  have:posM (oneM k) s=none:=by
    have:=pos_one k s
    rw[h] at this
    simpa using this
  unfold bumpM
  rw[this]
  simp[oneM]
abbrev mcM (m:Cnt):List SV:=[.mc (ksM m) (vsM m)]
theorem ltS_mc (n:Nat) (m:Cnt):ltS n [.mc (ksM m) (vsM m)]=true:=by
  have h:ltS n (vsM m)=true:=by
    induction m with
    | nil=>rfl
    | cons p r ih =>
      have e:vsM (p::r)=.d (dI p.2)::vsM r:=rfl
      rw[e]
      unfold ltS
      simp[SV.lt,ih]
  unfold ltS
  simp[SV.lt,h]
  rfl
theorem bump_step (m:Cnt) (s:ByteArray):∃ z:Int,lookS Tryz.prog 123 (ksM m) (vsM m) s false=some (.d (dI z))∧updK (ksM m) (vsM m) s (.d (dI (IntKind.i64.wrap (z+1))))=some (.mc (ksM (bumpM m s)) (vsM (bumpM m s))):=by
  cases hp:posM m s with
  | none =>
    obtain⟨e1,e2⟩:=bump_none hp
    have hi0:idxK (ksM m) s=some none:=by rw[idx_m,hp]
    refine⟨0,by rw[lookS_none (e:=3) (z:=.d (dI 0)) (by kernel_rfl) hi0 (by kernel_rfl)];rfl,?_⟩
    rw[updK_none hi0,e1,e2]
    rw[show IntKind.i64.wrap (0+1)=1 from wrap64 (by omega) (by omega)]
  | some j =>
    obtain⟨e1,e2⟩:=bump_some hp
    have hj:=pos_lt hp
    have hi0:idxK (ksM m) s=some (some j):=by rw[idx_m,hp]
    refine⟨m[j].2,by rw[lookS_at (e:=3) (by kernel_rfl) hi0 (v:=.d (dI m[j].2)) (by simp[vsM,hj])];rfl,?_⟩
    rw[updK_at hi0,e1,e2]
theorem look_one (k:List ByteArray) (s:ByteArray):lookS Tryz.prog 123 (ksM (oneM k)) (vsM (oneM k)) s false=some (.d (dI (if memB s k=true then 1 else 0))):=by
  have hp:=pos_one k s
  cases h:posM (oneM k) s with
  | none =>
    rw[h] at hp
    rw[lookS_none (e:=3) (z:=.d (dI 0)) (by kernel_rfl) (by rw[idx_m,h]) (by kernel_rfl), ← hp]
    rfl
  | some j =>
    rw[h] at hp
    have hj:=pos_lt h
    rw[lookS_at (e:=3) (by kernel_rfl) (by rw[idx_m,h]) (v:=.d (dI ((oneM k)[j]).2)) (by simp[vsM,hj]),one_val hj, ← hp]
    rfl
def argN (a:Arg):ByteArray:=baseT a.ty
def fldN (f:Fld):List ByteArray:=baseT f.ty::f.args.map argN
def wordN (d:Def):List ByteArray:=if d.kind=4 then d.words else []
def nxU (l:List Def) (s:ByteArray):List ByteArray:=(defL l s).flds.flatMap fldN++wordN (defL l s)
def useG (l:List Def):Nat→List ByteArray→ByteArray→List ByteArray
  | 0,k,_=>k
  | n+1,k,s=>if (atD l s).isSome=true∧memB s k=false then (nxU l s).foldl (useG l n) (k++[s]) else k
theorem at_name {l:List Def}{s:ByteArray} (h:(atD l s).isSome=true):s∈defNames l:=by
  cases ha:atD l s with
  | none=>rw[ha] at h;cases h
  | some j =>
    obtain⟨h1,h2,_⟩:=List.findIdx?_eq_some_iff_getElem.1 ha
    exact List.mem_map.2 ⟨_,List.getElem_mem h1,by simpa using h2⟩
theorem known_use (l:List Def):∀ (n:Nat) (s:ByteArray) (k:List ByteArray),KnownIn (defNames l) k→KnownIn (defNames l) (useG l n k s)∧k.length≤(useG l n k s).length
  | 0,s,k,h=>⟨h,Nat.le_refl _⟩
  | n+1,s,k,h=>by
    have fold:∀ (x k:List ByteArray),KnownIn (defNames l) k→KnownIn (defNames l) (x.foldl (useG l n) k)∧k.length≤(x.foldl (useG l n) k).length:=fun x=>by
      induction x with
      | nil=>exact fun k h=>⟨h,Nat.le_refl _⟩
      | cons y r ih =>
        intro k h
        have h1:=known_use l n y k h
        have h2:=ih _ h1.1
        exact⟨h2.1,Nat.le_trans h1.2 h2.2⟩
    rw[useG]
    split
    · rename_i hc
      have h1:=h.snoc (at_name hc.1) (fun e=>by rw[memB_iff.2 e] at hc;cases hc.2)
      have h2:=fold (nxU l s) _ h1
      refine⟨h2.1,?_⟩
      have:=h2.2
      simp at this
      omega
    · exact⟨h,Nat.le_refl _⟩
theorem known_uses (l:List Def) (n:Nat):∀ (x k:List ByteArray),KnownIn (defNames l) k→KnownIn (defNames l) (x.foldl (useG l n) k)∧k.length≤(x.foldl (useG l n) k).length
  | [],k,h=>⟨h,Nat.le_refl _⟩
  | y::r,k,h=>by
    have h1:=known_use l n y k h
    have h2:=known_uses l n r _ h1.1
    exact⟨h2.1,Nat.le_trans h1.2 h2.2⟩
def upF (l:List Def) (n:Nat) (fs:List Fld) (i:Nat) (k:List ByteArray):List ByteArray:=((fs.take i).flatMap fldN).foldl (useG l n) k
def upA (l:List Def) (n:Nat) (ars:List Arg) (i:Nat) (k:List ByteArray):List ByteArray:=((ars.take i).map argN).foldl (useG l n) k
def upW (l:List Def) (n:Nat) (ws:List ByteArray) (i:Nat) (k:List ByteArray):List ByteArray:=(ws.take i).foldl (useG l n) k
theorem upW_zero (l:List Def) (n:Nat) (ws:List ByteArray) (k:List ByteArray):upW l n ws 0 k=k:=rfl
theorem upA_next {l:List Def}{n:Nat}{ars:List Arg}{i:Nat} (hi:i<ars.length) (k:List ByteArray):upA l n ars (i+1) k=useG l n (upA l n ars i k) (argN ars[i]):=by
  unfold upA;rw[List.take_succ_eq_append_getElem hi,List.map_append,List.foldl_append];rfl
theorem upW_next {l:List Def}{n:Nat}{ws:List ByteArray}{i:Nat} (hi:i<ws.length) (k:List ByteArray):upW l n ws (i+1) k=useG l n (upW l n ws i k) ws[i]:=foldl_next _ _ hi
theorem upF_next {l:List Def}{n:Nat}{fs:List Fld}{i:Nat} (hi:i<fs.length) (k:List ByteArray):upF l n fs (i+1) k=upA l n fs[i].args fs[i].args.length (useG l n (upF l n fs i k) (baseT fs[i].ty)):=by
  unfold upF upA
  rw[List.take_succ_eq_append_getElem hi,List.flatMap_append,List.foldl_append,List.take_length]
  simp[fldN]
theorem upF_known {l:List Def}{n:Nat}{fs:List Fld}{i:Nat}{k:List ByteArray} (h:KnownIn (defNames l) k):KnownIn (defNames l) (upF l n fs i k)∧k.length≤(upF l n fs i k).length:=known_uses l n _ k h
theorem upA_known {l:List Def}{n:Nat}{ars:List Arg}{i:Nat}{k:List ByteArray} (h:KnownIn (defNames l) k):KnownIn (defNames l) (upA l n ars i k)∧k.length≤(upA l n ars i k).length:=known_uses l n _ k h
theorem upW_known {l:List Def}{n:Nat}{ws:List ByteArray}{i:Nat}{k:List ByteArray} (h:KnownIn (defNames l) k):KnownIn (defNames l) (upW l n ws i k)∧k.length≤(upW l n ws i k).length:=known_uses l n _ k h
theorem use_yes {l:List Def}{n:Nat}{k:List ByteArray}{s:ByteArray} (h:(atD l s).isSome=true) (hm:memB s k=false):useG l (n+1) k s=(if (defL l s).kind=4 then upW l n (defL l s).words (defL l s).words.length else fun k=>k) (upF l n (defL l s).flds (defL l s).flds.length (k++[s])):=by
  rw[useG,if_pos ⟨h,hm⟩,nxU,List.foldl_append]
  unfold upF wordN
  rw[List.take_length]
  split
  · unfold upW;rw[List.take_length]
  · rfl
set_option maxHeartbeats 8000000 in
theorem l_use (l:List Def) (hd:∀ d∈l,defB d=true∧DefOk d):∀ (n:Nat) (s:ByteArray) (k:List ByteArray) (S0:St) (b:Nat),KnownIn (defNames l) k→(defNames l).length<n+k.length→b<S0.nx→S0.B b=some (mcM (oneM k)) →
    LCall Tryz.prog 94 [.d (schD l), .mv b, .d (dS s)] S0 (.tu []) (leftS S0 0 [(b,mcM (oneM (useG l n k s)))] [])
  | 0,s,k,S0,b,hK,hl,hb,hB=>by
    have:=nodup_len hK.nodup hK.sub
    omega
  | n+1,s,k,S0,b,hK,hl,hb,hB=>by
    have ih:=l_use l hd n
    refine LCall.byE (md:=[]) (leftS_keeps _ _ _ _) (by simp[SV.lt,ltS]<;>omega) Tryz.func94 rfl (by kernel_rfl) (n:=75) Tryz.ntmps94 (by simp) (by decide) rfl ?_
    have ap1_0a:∀ k,S0.nx≤k→¬ b=k:=fun k=>by omega
    have ap1_0b:∀ k,S0.nx≤k→¬ k=b:=fun k=>by omega
    have ap1_0c:∀ k,S0.nx≤k→b<k:=fun k=>by omega
    have ap1_0d:∀ k,S0.nx≤k→b≤k:=fun k=>by omega
    simp
    cases ha:atD l s with
    | none =>
      have hz:useG l (n+1) k s=k:=by rw[useG,if_neg (by rw[ha];simp)]
      refine⟨_,look_none ha,?_⟩
      rw[hz]
      simp
      refine elder_old (bs:=[b]) (ts:=[]) (by ((repeat first | rw[old_adv] | rw[old_setIn (by first | (simp;done) | fail)] | rw[old_set (by first | omega | (simp;done)|(simp;omega))] | rw[old_new (by first | omega | (simp;done)|(simp;omega))] | rw[old_tipIn (by first | (simp;done) | fail)] | rw[old_tip (by first | omega | (simp;done)|(simp;omega))] | refine old_left (by first | omega | (simp;done)|(simp;omega)) (by first | omega | (simp;done)|(simp;omega)) (by first | omega | (simp;done)|(simp;omega)) ?_);(first | exact ho | simp))) ?_ ?_ ?_ ?_ ?_ ?_
      · simp[hB,ap1_0a]
      · simp
      · simp[hb,ltS_mc]
      · simp
      · simp
      · simp
    | some j =>
      refine⟨_,look_some ha,?_⟩
      have hl1:=look_one k s
      have hsome:(atD l s).isSome=true:=by rw[ha];rfl
      have hcl:(defL l s).cells.length=4:=rfl
      cases hm:memB s k with
      | true =>
        have hz:useG l (n+1) k s=k:=by rw[useG,if_neg (by rw[hm];simp)]
        rw[hm] at hl1
        simp only[if_true] at hl1
        rw[hz]
        simp[hB,ap1_0a,hcl]
        refine⟨_,hl1,?_⟩
        simp
        refine elder_old (bs:=[b]) (ts:=[]) (by ((repeat first | rw[old_adv] | rw[old_setIn (by first | (simp;done) | fail)] | rw[old_set (by first | omega | (simp;done)|(simp;omega))] | rw[old_new (by first | omega | (simp;done)|(simp;omega))] | rw[old_tipIn (by first | (simp;done) | fail)] | rw[old_tip (by first | omega | (simp;done)|(simp;omega))] | refine old_left (by first | omega | (simp;done)|(simp;omega)) (by first | omega | (simp;done)|(simp;omega)) (by first | omega | (simp;done)|(simp;omega)) ?_);(first | exact ho | simp))) ?_ ?_ ?_ ?_ ?_ ?_
        · simp[hB,ap1_0a]
        · simp
        · simp[hb,ltS_mc]
        · simp
        · simp
        · simp
      | false =>
        have hz:=use_yes (n:=n) hsome hm
        have hK2:KnownIn (defNames l) (k++[s]):=hK.snoc (at_name hsome) (fun e=>by rw[memB_iff.2 e] at hm;cases hm)
        have hl2:(defNames l).length<n+(k++[s]).length:=by rw[List.length_append,List.length_singleton];omega
        obtain⟨z,z1,z2⟩:=bump_step (oneM k) s
        rw[bump_one hm] at z2
        rw[hm] at hl1
        simp only[Bool.false_eq_true,if_false] at hl1
        obtain⟨hdb,hdo⟩:defB (defL l s)=true∧DefOk (defL l s):=by rw[defL_some ha];exact hd _ (List.getElem_mem _)
        have hfo:=fld_of hdb
        generalize defL l s=d at hz hdb hdo hfo
        obtain⟨dn,kind,fs,words⟩:=d
        simp only at hz hfo
        have hfl:=hdo.2.1
        have hwl:=hdo.2.2.1
        simp only at hfl hwl
        rw[hz]
        obtain⟨q,hq⟩:∃ q,S0.nx+6=q:=⟨_,rfl⟩
        simp[hB,ap1_0a,Def.cells]
        refine⟨_,hl1,?_⟩
        simp[hB,ap1_0a]
        refine⟨_,z1,?_⟩
        simp[hB,ap1_0a,ap1_0b]
        refine⟨_,z2,?_⟩
        refine LoopT.round (fun E S=>∃ (i:Nat) (kk:List ByteArray),(i≤fs.length)∧E 0=some (.d (schD l))∧E 1=some (.mv b)∧E 6=some (.op q 0)∧E 33=some (.d (fldsD fs))∧E 34=some (.d (dI fs.length))∧E 35=some (.d (dI i))∧S.B q=some ([.d (dS dn), .d (dI kind), .d (fldsD fs), .d (namesD words)])∧S.B b=some (mcM (oneM kk))∧(kk=upF l n fs i (k++[s]))∧(Old S0 [b] [] S)∧(S0.nx≤q∧q+1≤S.nx)) (upTo 35 fs.length) ⟨0,k++[s],by subst hq;simp[ap1_0b];((repeat' refine And.intro ?_ ?_)<;>(first | omega | rfl | (simp;done)|(((repeat first | rw[old_adv] | rw[old_setIn (by first | (simp;done) | fail)] | rw[old_set (by first | omega | (simp;done)|(simp;omega))] | rw[old_new (by first | omega | (simp;done)|(simp;omega))] | rw[old_tipIn (by first | (simp;done) | fail)] | rw[old_tip (by first | omega | (simp;done)|(simp;omega))] | refine old_left (by first | omega | (simp;done)|(simp;omega)) (by first | omega | (simp;done)|(simp;omega)) (by first | omega | (simp;done)|(simp;omega)) ?_);(first | exact ho | simp)))|(simp;omega)))⟩ ?_
        rintro E S hk ⟨i,kk,hi,h0,h1,h6,h33,h34,h35,hBq,hBb,hkk,ho,hx⟩
        have hn:S.n=75:=by first | (simpa using hk.n)|(have hh:=hk.n;simp[hB,ap1_0a,ap1_0b,ap1_0c,ap1_0d,hcl,Def.cells] at hh;exact hh)
        have hg:S.gl=S0.gl:=by first | (simpa using hk.gl)|(have hh:=hk.gl;simp[hB,ap1_0a,ap1_0b,ap1_0c,ap1_0d,hcl,Def.cells] at hh;exact hh)
        have hmd:S.md=[]:=by first | (simpa using hk.md)|(have hh:=hk.md;simp[hB,ap1_0a,ap1_0b,ap1_0c,ap1_0d,hcl,Def.cells] at hh;exact hh)
        simp[h34,h35,hn,hg]
        have w:=wrap64 (n:=(i:Int)+1) (by omega) (by omega)
        have hKk:=upF_known (n:=n) (fs:=fs) (i:=i) hK2
        rw[← hkk] at hKk
        obtain⟨hKk,hlk⟩:=hKk
        refine BrT.dec (fun c=>?_) (fun c=>?_)
        · have hi2:i<fs.length:=by omega
          have flen:=flds_len fs
          have ffit:i*5+5≤fs.length*5:=by omega
          have fat:=flds_at fs hi2
          have hfo:=hfo _ (List.getElem_mem hi2)
          have hfk:=hfl.2 _ (List.getElem_mem hi2)
          have hnx:=upF_next (l:=l) (n:=n) hi2 (k++[s])
          rw[← hkk] at hnx
          generalize fs[i]=f at fat hfo hfk hnx
          obtain⟨fn,args,fty⟩:=f
          obtain⟨hal,hak⟩:=hfk.2.1
          simp only at hfo hnx hal hak
          have hBs:=p_baseOf (gl:=S0.gl) fty 3 hfo.1
          have hu1:=known_use l n (baseT fty) kk hKk
          have hc1:=fun S'=>ih (baseT fty) kk S' b hKk (by omega)
          generalize baseT fty=bt at hBs hu1 hc1 hnx
          generalize useG l n kk bt=u1 at hu1 hc1 hnx
          obtain⟨hKu,hlu⟩:=hu1
          cases fty with
          | mk ft flt fb =>
          simp only[Fld.cells,Typ.cells] at fat
          have ap2_0a:∀ k,S.nx≤k→¬ b=k:=fun k=>by omega
          have ap2_0b:∀ k,S.nx≤k→¬ k=b:=fun k=>by omega
          have ap2_0c:∀ k,S.nx≤k→b<k:=fun k=>by omega
          have ap2_0d:∀ k,S.nx≤k→b≤k:=fun k=>by omega
          have ap2_1a:∀ k,S.nx≤k→¬ q=k:=fun k=>by omega
          have ap2_1b:∀ k,S.nx≤k→¬ k=q:=fun k=>by omega
          have ap2_1c:∀ k,S.nx≤k→q<k:=fun k=>by omega
          have ap2_1d:∀ k,S.nx≤k→q≤k:=fun k=>by omega
          have ap2_1_0:¬ q=b:=by omega
          have ap2_1_0':¬ b=q:=by omega
          simp[h0,h1,h33,h35,hn,c,flen,ffit,fat]
          repeat refine⟨DrawT.mk (by kernel_rfl),?_⟩
          refine CallT.p0 (hBs) (by first | rfl | (simp;done)|(simp[hg];done)) (by first | rfl | (simp;done)|(simp;rfl)|(simp[hB,ap1_0a,ap1_0b,ap1_0c,ap1_0d,hcl,Def.cells,h0,h1,h6,h33,h34,h35,hBq,hBb,hn,hg,hmd,c,hi2,w,flen,ffit,fat,Typ.cells,ap2_0a,ap2_0b,ap2_0c,ap2_0d,ap2_1a,ap2_1b,ap2_1c,ap2_1d,ap2_1_0,ap2_1_0'];done)) ?_
          simp[hn]
          refine CallT.la (hc1 _ ?_ ?_) (by repeat' (first | exact trivial | exact Or.inl rfl | exact Or.inr ⟨_,by first | (simp;done)|(simp;rfl),rfl⟩ | refine And.intro ?_ ?_)) rfl ?_
          · simp;omega
          · simp[hBb,ap2_0a]
          simp[hn,ap2_0b]
          have o35:=h35
          refine LoopT.round (fun E S=>∃ (j:Nat) (u:Nat) (k2:List ByteArray),(j≤args.length)∧E 0=some (.d (schD l))∧E 1=some (.mv b)∧E 6=some (.op q 0)∧E 33=some (.d (fldsD fs))∧E 34=some (.d (dI fs.length))∧E 35=some (.d (dI i))∧E 46=some (.d (argsD args))∧E 47=some (.d (dI args.length))∧E 48=some (.d (dI j))∧S.B q=some ([.d (dS dn), .d (dI kind), .d (fldsD fs), .d (namesD words)])∧S.B b=some (mcM (oneM k2))∧(k2=upA l n args j u1)∧(Old S0 [b] [] S)∧(S0.nx≤q∧q+1≤S.nx)) (upTo 48 args.length) ⟨0,0,u1,by simp[h0,h1,h6,h33,h34,h35,hBq,ap2_1a,ap2_1c,ap2_1d,ap2_1_0];((repeat' refine And.intro ?_ ?_)<;>(first | omega | rfl | (simp;done)|(((repeat first | rw[old_adv] | rw[old_setIn (by first | (simp;done) | fail)] | rw[old_set (by first | omega | (simp;done)|(simp;omega))] | rw[old_new (by first | omega | (simp;done)|(simp;omega))] | rw[old_tipIn (by first | (simp;done) | fail)] | rw[old_tip (by first | omega | (simp;done)|(simp;omega))] | refine old_left (by first | omega | (simp;done)|(simp;omega)) (by first | omega | (simp;done)|(simp;omega)) (by first | omega | (simp;done)|(simp;omega)) ?_);(first | exact ho | simp)))|(simp;omega)))⟩ ?_
          rintro E S hk ⟨j,u,k2,hj,h0,h1,h6,h33,h34,h35,h46,h47,h48,hBq,hBb,hkk2,ho,hx⟩
          have hn:S.n=75:=by first | (simpa using hk.n)|(have hh:=hk.n;simp[hn] at hh;exact hh)
          have hg:S.gl=S0.gl:=by first | (simpa using hk.gl)|(have hh:=hk.gl;simp[hg] at hh;exact hh)
          have hmd:S.md=[]:=by first | (simpa using hk.md)|(have hh:=hk.md;simp[hmd] at hh;exact hh)
          simp[h47,h48,hn,hg]
          have w2:=wrap64 (n:=(j:Int)+1) (by omega) (by omega)
          have hKa:=upA_known (n:=n) (ars:=args) (i:=j) hKu
          rw[← hkk2] at hKa
          obtain⟨hKa,hla⟩:=hKa
          refine BrT.dec (fun c2=>?_) (fun c2=>?_)
          · have hj2:j<args.length:=by omega
            have alen:=args_len args
            have afit:j*10+10≤args.length*10:=by omega
            have aat:=args_at args hj2
            have haB:=hfo.2 _ (List.getElem_mem hj2)
            have hnx2:=upA_next (l:=l) (n:=n) hj2 u1
            rw[← hkk2] at hnx2
            generalize args[j]=a at aat haB hnx2
            have hty:=typ_of haB
            have hBa:=p_baseOf (gl:=S0.gl) a.ty 3 hty
            have hc2:=fun S'=>ih (baseT a.ty) k2 S' b hKa (by omega)
            have hN:argN a=baseT a.ty:=rfl
            rw[hN] at hnx2
            generalize baseT a.ty=bt at hBa hc2 hnx2
            obtain⟨an,aty,ah,ae⟩:=a
            cases aty with
            | mk at_ alt ab =>
            cases ae with
            | mk ek en et el ens =>
            simp only at hBa
            simp only[Arg.cells,Typ.cells,Val.cells,List.cons_append,List.nil_append] at aat
            have ap3_0a:∀ k,S.nx≤k→¬ b=k:=fun k=>by omega
            have ap3_0b:∀ k,S.nx≤k→¬ k=b:=fun k=>by omega
            have ap3_0c:∀ k,S.nx≤k→b<k:=fun k=>by omega
            have ap3_0d:∀ k,S.nx≤k→b≤k:=fun k=>by omega
            have ap3_1a:∀ k,S.nx≤k→¬ q=k:=fun k=>by omega
            have ap3_1b:∀ k,S.nx≤k→¬ k=q:=fun k=>by omega
            have ap3_1c:∀ k,S.nx≤k→q<k:=fun k=>by omega
            have ap3_1d:∀ k,S.nx≤k→q≤k:=fun k=>by omega
            have ap3_1_0:¬ q=b:=by omega
            have ap3_1_0':¬ b=q:=by omega
            simp[h0,h1,h46,h48,hn,c2,alen,afit,aat]
            repeat refine⟨DrawT.mk (by kernel_rfl),?_⟩
            refine CallT.p0 (hBa) (by first | rfl | (simp;done)|(simp[hg];done)) (by first | rfl | (simp;done)|(simp;rfl)|(simp[hB,ap1_0a,ap1_0b,ap1_0c,ap1_0d,hcl,Def.cells,h0,h1,h6,h33,h34,h35,hBq,hBb,hn,hg,hmd,c,hi2,w,flen,ffit,fat,Typ.cells,ap2_0a,ap2_0b,ap2_0c,ap2_0d,ap2_1a,ap2_1b,ap2_1c,ap2_1d,ap2_1_0,ap2_1_0',h0,h1,h6,h33,h34,h35,h46,h47,h48,hBq,hBb,hn,hg,hmd,c2,hj2,w2,alen,afit,aat,Typ.cells,ap3_0a,ap3_0b,ap3_0c,ap3_0d,ap3_1a,ap3_1b,ap3_1c,ap3_1d,ap3_1_0,ap3_1_0'];done)) ?_
            simp[hn]
            refine CallT.la (hc2 _ ?_ ?_) (by repeat' (first | exact trivial | exact Or.inl rfl | exact Or.inr ⟨_,by first | (simp;done)|(simp;rfl),rfl⟩ | refine And.intro ?_ ?_)) rfl ?_
            · simp;omega
            · simp[hBb,ap3_0a]
            simp[ap2_1_0,h0,h1,h6,h33,h34,h35,h46,h47,h48,hBq,hn,w2,ap3_1a,ap3_1c,ap3_1d]
            exact⟨⟨j+1,by omega,by omega,_,⟨rfl,rfl⟩,hnx2.symm,by ((repeat first | rw[old_adv] | rw[old_setIn (by first | (simp;done) | fail)] | rw[old_set (by first | omega | (simp;done)|(simp;omega))] | rw[old_new (by first | omega | (simp;done)|(simp;omega))] | rw[old_tipIn (by first | (simp;done) | fail)] | rw[old_tip (by first | omega | (simp;done)|(simp;omega))] | refine old_left (by first | omega | (simp;done)|(simp;omega)) (by first | omega | (simp;done)|(simp;omega)) (by first | omega | (simp;done)|(simp;omega)) ?_);(first | exact ho | simp)),by omega⟩,upTo_lt h48 (by simp) hj2⟩
          · have hj3:j=args.length:=by omega
            subst hj3
            have ap4_0a:∀ k,S.nx≤k→¬ b=k:=fun k=>by omega
            have ap4_0b:∀ k,S.nx≤k→¬ k=b:=fun k=>by omega
            have ap4_0c:∀ k,S.nx≤k→b<k:=fun k=>by omega
            have ap4_0d:∀ k,S.nx≤k→b≤k:=fun k=>by omega
            have ap4_1a:∀ k,S.nx≤k→¬ q=k:=fun k=>by omega
            have ap4_1b:∀ k,S.nx≤k→¬ k=q:=fun k=>by omega
            have ap4_1c:∀ k,S.nx≤k→q<k:=fun k=>by omega
            have ap4_1d:∀ k,S.nx≤k→q≤k:=fun k=>by omega
            have ap4_1_0:¬ q=b:=by omega
            have ap4_1_0':¬ b=q:=by omega
            simp[w,h0,h1,h6,h33,h34,h35,hBq,hBb,hn,c2,ap4_1d]
            exact⟨⟨i+1,by omega,by omega,k2,⟨rfl,rfl⟩,by rw[hnx,hkk2],by ((repeat first | rw[old_adv] | rw[old_setIn (by first | (simp;done) | fail)] | rw[old_set (by first | omega | (simp;done)|(simp;omega))] | rw[old_new (by first | omega | (simp;done)|(simp;omega))] | rw[old_tipIn (by first | (simp;done) | fail)] | rw[old_tip (by first | omega | (simp;done)|(simp;omega))] | refine old_left (by first | omega | (simp;done)|(simp;omega)) (by first | omega | (simp;done)|(simp;omega)) (by first | omega | (simp;done)|(simp;omega)) ?_);(first | exact ho | simp)),by omega⟩,upTo_lt o35 (by simp) hi2⟩
        · have hi3:i=fs.length:=by omega
          subst hi3
          have ap5_0a:∀ k,S.nx≤k→¬ b=k:=fun k=>by omega
          have ap5_0b:∀ k,S.nx≤k→¬ k=b:=fun k=>by omega
          have ap5_0c:∀ k,S.nx≤k→b<k:=fun k=>by omega
          have ap5_0d:∀ k,S.nx≤k→b≤k:=fun k=>by omega
          have ap5_1a:∀ k,S.nx≤k→¬ q=k:=fun k=>by omega
          have ap5_1b:∀ k,S.nx≤k→¬ k=q:=fun k=>by omega
          have ap5_1c:∀ k,S.nx≤k→q<k:=fun k=>by omega
          have ap5_1d:∀ k,S.nx≤k→q≤k:=fun k=>by omega
          have ap5_1_0:¬ q=b:=by omega
          have ap5_1_0':¬ b=q:=by omega
          simp[h6,hBq,hn,c]
          refine LoopT.round (fun E S=>∃ (t:Nat) (k3:List ByteArray),(t≤words.length)∧E 0=some (.d (schD l))∧E 1=some (.mv b)∧E 6=some (.op q 0)∧E 61=some (.d (namesD words))∧E 62=some (.d (dI words.length))∧E 63=some (.d (dI t))∧S.B q=some ([.d (dS dn), .d (dI kind), .d (fldsD fs), .d (namesD words)])∧S.B b=some (mcM (oneM k3))∧(k3=if kind=4 then upW l n words t kk else kk)∧(Old S0 [b] [] S)∧(S0.nx≤q∧q+1≤S.nx)) (upTo 63 words.length) ⟨0,kk,by simp[h0,h1,h6,hBq,hBb,ap5_1d,upW_zero];((repeat' refine And.intro ?_ ?_)<;>(first | omega | rfl | (simp;done)|(((repeat first | rw[old_adv] | rw[old_setIn (by first | (simp;done) | fail)] | rw[old_set (by first | omega | (simp;done)|(simp;omega))] | rw[old_new (by first | omega | (simp;done)|(simp;omega))] | rw[old_tipIn (by first | (simp;done) | fail)] | rw[old_tip (by first | omega | (simp;done)|(simp;omega))] | refine old_left (by first | omega | (simp;done)|(simp;omega)) (by first | omega | (simp;done)|(simp;omega)) (by first | omega | (simp;done)|(simp;omega)) ?_);(first | exact ho | simp)))|(simp;omega)))⟩ ?_
          rintro E S hk ⟨t,k3,ht,h0,h1,h6,h61,h62,h63,hBq,hBb,hkk3,ho,hx⟩
          have hn:S.n=75:=by first | (simpa using hk.n)|(have hh:=hk.n;simp[hn] at hh;exact hh)
          have hg:S.gl=S0.gl:=by first | (simpa using hk.gl)|(have hh:=hk.gl;simp[hg] at hh;exact hh)
          have hmd:S.md=[]:=by first | (simpa using hk.md)|(have hh:=hk.md;simp[hmd] at hh;exact hh)
          simp[h62,h63,hn,hg]
          have w2:=wrap64 (n:=(t:Int)+1) (by omega) (by omega)
          refine BrT.dec (fun c3=>?_) (fun c3=>?_)
          · have ht2:t<words.length:=by omega
            have ap6_0a:∀ k,S.nx≤k→¬ b=k:=fun k=>by omega
            have ap6_0b:∀ k,S.nx≤k→¬ k=b:=fun k=>by omega
            have ap6_0c:∀ k,S.nx≤k→b<k:=fun k=>by omega
            have ap6_0d:∀ k,S.nx≤k→b≤k:=fun k=>by omega
            have ap6_1a:∀ k,S.nx≤k→¬ q=k:=fun k=>by omega
            have ap6_1b:∀ k,S.nx≤k→¬ k=q:=fun k=>by omega
            have ap6_1c:∀ k,S.nx≤k→q<k:=fun k=>by omega
            have ap6_1d:∀ k,S.nx≤k→q≤k:=fun k=>by omega
            have ap6_1_0:¬ q=b:=by omega
            have ap6_1_0':¬ b=q:=by omega
            simp[h6,h61,h63,hBq,hn,c3]
            refine BrT.dec (fun k4=>?_) (fun k4=>?_)
            · rw[if_pos k4] at hkk3
              have hKw:=upW_known (n:=n) (ws:=words) (i:=t) hKk
              rw[← hkk3] at hKw
              have hnx3:=upW_next (l:=l) (n:=n) ht2 kk
              rw[← hkk3] at hnx3
              have hc3:=fun S'=>ih words[t] k3 S' b hKw.1 (by have:=hKw.2;omega)
              simp[h0,h1,hn,k4]
              refine CallT.la (hc3 _ ?_ ?_) (by repeat' (first | exact trivial | exact Or.inl rfl | exact Or.inr ⟨_,by first | (simp;done)|(simp;rfl),rfl⟩ | refine And.intro ?_ ?_)) rfl ?_
              · simp;omega
              · simp[hBb]
              simp[ap5_1_0,h0,h1,h6,h61,h62,h63,hBq,hn,w2,ap6_1c,ap6_1d,k4]
              exact⟨⟨t+1,by omega,by omega,_,⟨rfl,rfl⟩,by rw[← hnx3],by ((repeat first | rw[old_adv] | rw[old_setIn (by first | (simp;done) | fail)] | rw[old_set (by first | omega | (simp;done)|(simp;omega))] | rw[old_new (by first | omega | (simp;done)|(simp;omega))] | rw[old_tipIn (by first | (simp;done) | fail)] | rw[old_tip (by first | omega | (simp;done)|(simp;omega))] | refine old_left (by first | omega | (simp;done)|(simp;omega)) (by first | omega | (simp;done)|(simp;omega)) (by first | omega | (simp;done)|(simp;omega)) ?_);(first | exact ho | simp)),by omega⟩,upTo_lt h63 (by simp) ht2⟩
            · rw[if_neg k4] at hkk3
              simp[h0,h1,h6,h61,h62,h63,hBq,hBb,hn,w2,ap6_1d,k4]
              exact⟨⟨t+1,by omega,by omega,k3,⟨rfl,rfl⟩,hkk3,by ((repeat first | rw[old_adv] | rw[old_setIn (by first | (simp;done) | fail)] | rw[old_set (by first | omega | (simp;done)|(simp;omega))] | rw[old_new (by first | omega | (simp;done)|(simp;omega))] | rw[old_tipIn (by first | (simp;done) | fail)] | rw[old_tip (by first | omega | (simp;done)|(simp;omega))] | refine old_left (by first | omega | (simp;done)|(simp;omega)) (by first | omega | (simp;done)|(simp;omega)) (by first | omega | (simp;done)|(simp;omega)) ?_);(first | exact ho | simp)),by omega⟩,upTo_lt h63 (by simp) ht2⟩
          · have ht3:t=words.length:=by omega
            subst ht3
            have hfin:(if kind=4 then upW l n words words.length else fun k=>k) (upF l n fs fs.length (k++[s]))=k3:=by
              rw[← hkk,hkk3]
              split<;>rfl
            rw[hfin]
            simp[c3]
            refine elder_old (bs:=[b]) (ts:=[]) ho ?_ ?_ ?_ ?_ ?_ ?_
            · simp[hBb]
            · simp
            · simp[hb,ltS_mc]
            · simp
            · simp
            · simp
set_option maxHeartbeats 2000000 in
theorem p_l4Put (l:List ByteArray) (s:ByteArray) (hl:l.length≤1073741824):PCall Tryz.prog gl 152 [namesD l,dS s] (namesD (putN l s)):=by
  refine PCall.by_ (md:=[]) Tryz.func152 rfl (by kernel_rfl) (n:=45) Tryz.ntmps152 (by simp) (by decide) rfl ?_
  simp
  refine LoopT.round (fun E S=>∃ (i:Nat),(i≤l.length)∧E 0=some (.d (namesD l))∧E 1=some (.d (dS s))∧E 5=some (.d (dI i))∧(∀ j (hl:j<l.length),j<i→ltN l[j] s=true)) (upTo 5 l.length) ⟨0,by simp⟩ ?_
  rintro E S hk ⟨i,hi,h0,h1,h5,hp⟩
  have hn:S.n=45:=by first | (simpa using hk.n)|(have hh:=hk.n;simp at hh;exact hh)
  have hg:S.gl=gl:=by first | (simpa using hk.gl)|(have hh:=hk.gl;simp at hh;exact hh)
  have hmd:S.md=[]:=by first | (simpa using hk.md)|(have hh:=hk.md;simp at hh;exact hh)
  simp[h0,h5,hn,hg]
  have w:=wrap64 (n:=(i:Int)+1) (by omega) (by omega)
  have hge:=putK_ge hi fun j hj=>hp j (by omega) hj
  have hle:=putK_le l s
  refine BrT.dec (fun c=>?_) (fun c=>?_)
  · have hi2:i<l.length:=by omega
    have hbl:Op.bytesLess l[i].toList s.toList=ltN l[i] s:=rfl
    simp[h0,h1,h5,hn,hg,c,hbl]
    refine BrT.mk (fun e=>?_) (fun e=>?_)
    · simp[h0,h1,h5,hn,w,e]
      refine⟨⟨i+1,by omega,by omega,fun j hl2 hj=>?_⟩,upTo_lt h5 (by simp) hi2⟩
      rcases Nat.lt_succ_iff_lt_or_eq.1 hj with h | h
      · exact hp j hl2 h
      · subst h;exact e
    · have hk:putK l s=i:=by
        rcases Nat.lt_or_ge i (putK l s) with h | h
        · have:=putK_lt h hi2;rw[e] at this;cases this
        · omega
      simp[h0,h1,h5,hn,hg,c,e]
      refine BrT.dec (fun e2=>?_) (fun e2=>?_)
      · have hq:putN l s=l:=by unfold putN;rw[hk,List.getElem?_eq_getElem hi2,e2,if_pos rfl]
        simp[h0,hn,e2,hq]
      · have hq:putN l s=l.take i++s::l.drop i:=by unfold putN;rw[hk,List.getElem?_eq_getElem hi2,if_neg (by simpa using e2)]
        have hmin:min i l.length=i:=by omega
        have hb1:appBound 0 i 16:=by unfold appBound;omega
        have hb2:appBound i 1 16:=by unfold appBound;omega
        have hb3:appBound (i+1) (l.length - i) 16:=by unfold appBound;omega
        have hb4:appBound 0 1 16:=by unfold appBound;omega
        have hb5:appBound 1 l.length 16:=by unfold appBound;omega
        have hd0:¬ l.length - i=0:=by omega
        have hl0:¬ l.length=0:=by omega
        simp[h0,h5,hn,hmd,e2,hmin,hb1,hq]
        refine⟨DrawT.mk (by kernel_rfl),?_⟩
        by_cases hi0:i=0
        · subst hi0
          simp[h0,h1,h5,hn,hmd,hb2,hb5]
          exact⟨List.take_of_length_le (by simp),by omega⟩
        · simp[h0,h1,h5,hn,hmd,hmin,hb2,hb3,hi0]
          exact⟨by omega,List.take_of_length_le (by simp),by omega⟩
  · have hi3:i=l.length:=by omega
    have hk:putK l s=i:=by omega
    have hq:putN l s=l++[s]:=by unfold putN;rw[hk,hi3,List.getElem?_eq_none (by omega),if_neg (by simp),List.take_length,List.drop_length]
    have hmin:min i l.length=i:=by omega
    have hb1:appBound 0 i 16:=by unfold appBound;omega
    have hb2:appBound i 1 16:=by unfold appBound;omega
    have hb4:appBound 0 1 16:=by unfold appBound;omega
    have hd0:l.length - i=0:=by omega
    simp[h0,h5,hn,hg,hmd,c,hmin,hb1,hq]
    refine⟨DrawT.mk (by kernel_rfl),?_⟩
    by_cases hi0:i=0
    · have hl0:l=[]:=List.eq_nil_of_length_eq_zero (by omega)
      simp[h0,h1,h5,hn,hmd,hb4,hi0,hl0]
      unfold appBound;omega
    · simp[h0,h1,h5,hn,hmd,hmin,hb2,hd0,hi0]
      exact⟨by omega,by unfold appBound;omega,List.take_of_length_le (by simp;omega),hi3⟩
set_option maxHeartbeats 8000000 in
theorem p_l9Used (l:List Def) (hL:l.length≤1000000) (hd:∀ d∈l,defB d=true∧DefOk d):∀ (n:Nat) (s:ByteArray) (k:List ByteArray),KnownIn (defNames l) k→(defNames l).length<n+k.length →
    PCall Tryz.prog gl 97 [defsD l,dS s,namesD (sortN k)] (namesD (sortN (useG l n k s)))
  | 0,s,k,hK,hl=>by
    have:=nodup_len hK.nodup hK.sub
    omega
  | n+1,s,k,hK,hl=>by
    have ih:=p_l9Used l hL hd n
    have hkl:=nodup_len hK.nodup hK.sub
    have hdl:(defNames l).length=l.length:=by simp
    have hA:=p_l2At (gl:=gl) l s (by omega)
    obtain⟨z,hzz⟩:∃ z,sortN (useG l (n+1) k s)=z:=⟨_,rfl⟩
    rw[hzz]
    cases ha:atD l s with
    | none =>
      have hz:useG l (n+1) k s=k:=by rw[useG,if_neg (by rw[ha];simp)]
      rw[hz] at hzz
      have hz0:atZ l s = -1:=by unfold atZ;rw[ha]
      rw[hz0] at hA
      refine PCall.by_ (md:=[]) Tryz.func97 rfl (by kernel_rfl) (n:=97) Tryz.ntmps97 (by simp) (by decide) rfl ?_
      simp
      repeat refine⟨DrawT.mk (by kernel_rfl),?_⟩
      refine CallT.p0 (hA) (by first | rfl | (simp;done)|(simp;done)) (by first | rfl | (simp;done)|(simp;rfl)|(simp;done)) ?_
      simp
      simp[hzz]
    | some j =>
      have hz0:atZ l s=j:=by unfold atZ;rw[ha]
      rw[hz0] at hA
      have hj:=atD_lt ha
      have hneg:¬ ((j:Int)<0):=by omega
      have hsome:(atD l s).isSome=true:=by rw[ha];rfl
      have hH:=p_l2Has (gl:=gl) (sortN k) s (by rw[sortN_len];omega)
      rw[memB_sortN] at hH
      have dlen:=defs_len l
      have dfit:j*4+4≤l.length*4:=by omega
      have dat:=defs_at l hj
      obtain⟨hdb,hdo⟩:=hd _ (List.getElem_mem hj)
      have hds:=defL_some ha
      cases hm:memB s k with
      | true =>
        have hz:useG l (n+1) k s=k:=by rw[useG,if_neg (by rw[hm];simp)]
        rw[hz] at hzz
        rw[hm] at hH
        refine PCall.by_ (md:=[]) Tryz.func97 rfl (by kernel_rfl) (n:=97) Tryz.ntmps97 (by simp) (by decide) rfl ?_
        simp
        repeat refine⟨DrawT.mk (by kernel_rfl),?_⟩
        refine CallT.p0 (hA) (by first | rfl | (simp;done)|(simp[hneg];done)) (by first | rfl | (simp;done)|(simp;rfl)|(simp[hneg];done)) ?_
        simp[hneg]
        repeat refine⟨DrawT.mk (by kernel_rfl),?_⟩
        refine CallT.p0 (hH) (by first | rfl | (simp;done)|(simp[hneg];done)) (by first | rfl | (simp;done)|(simp;rfl)|(simp[hneg];done)) ?_
        simp
        simp[hzz]
      | false =>
        have hz:=use_yes (n:=n) hsome hm
        rw[hz] at hzz
        rw[hm] at hH
        have hsnm:¬ s∈k:=fun e=>by rw[memB_iff.2 e] at hm;cases hm
        have hK2:KnownIn (defNames l) (k++[s]):=hK.snoc (at_name hsome) hsnm
        have hl2:(defNames l).length<n+(k++[s]).length:=by rw[List.length_append,List.length_singleton];omega
        have hput:=p_l4Put (gl:=gl) (sortN k) s (by rw[sortN_len];omega)
        rw[put_sort hsnm] at hput
        rw[hds] at hzz
        have hfo:=fld_of hdb
        generalize l[j]=d at hzz hdb hdo hfo dat
        obtain⟨dn,kind,fs,words⟩:=d
        simp only at hzz hfo
        have hfl:=hdo.2.1
        have hwl:=hdo.2.2.1
        simp only at hfl hwl
        simp only[Def.cells] at dat
        refine PCall.by_ (md:=[]) Tryz.func97 rfl (by kernel_rfl) (n:=97) Tryz.ntmps97 (by simp) (by decide) rfl ?_
        have dat_1:=row_get dat 1 (by decide) rfl
        have dat_1'':=(List.getElem?_eq_some_iff.1 dat_1).2
        have dat_1':j*4+1<_:=Nat.lt_of_lt_of_le (by omega) dfit
        have dat_2:=row_get dat 2 (by decide) rfl
        have dat_2'':=(List.getElem?_eq_some_iff.1 dat_2).2
        have dat_2':j*4+2<_:=Nat.lt_of_lt_of_le (by omega) dfit
        have dat_3:=row_get dat 3 (by decide) rfl
        have dat_3'':=(List.getElem?_eq_some_iff.1 dat_3).2
        have dat_3':j*4+3<_:=Nat.lt_of_lt_of_le (by omega) dfit
        simp
        repeat refine⟨DrawT.mk (by kernel_rfl),?_⟩
        refine CallT.p0 (hA) (by first | rfl | (simp;done)|(simp[dat_1,dat_1',dat_1'',dat_2,dat_2',dat_2'',dat_3,dat_3',dat_3'',hneg,hj,dlen,dfit];done)) (by first | rfl | (simp;done)|(simp;rfl)|(simp[dat_1,dat_1',dat_1'',dat_2,dat_2',dat_2'',dat_3,dat_3',dat_3'',hneg,hj,dlen,dfit];done)) ?_
        simp[hneg]
        repeat refine⟨DrawT.mk (by kernel_rfl),?_⟩
        refine CallT.p0 (hH) (by first | rfl | (simp;done)|(simp[dat_1,dat_1',dat_1'',dat_2,dat_2',dat_2'',dat_3,dat_3',dat_3'',hneg,hj,dlen,dfit];done)) (by first | rfl | (simp;done)|(simp;rfl)|(simp[dat_1,dat_1',dat_1'',dat_2,dat_2',dat_2'',dat_3,dat_3',dat_3'',hneg,hj,dlen,dfit];done)) ?_
        simp
        repeat refine⟨DrawT.mk (by kernel_rfl),?_⟩
        refine CallT.p0 (hput) (by first | rfl | (simp;done)|(simp[dat_1,dat_1',dat_1'',dat_2,dat_2',dat_2'',dat_3,dat_3',dat_3'',hneg,hj,dlen,dfit];done)) (by first | rfl | (simp;done)|(simp;rfl)|(simp[dat_1,dat_1',dat_1'',dat_2,dat_2',dat_2'',dat_3,dat_3',dat_3'',hneg,hj,dlen,dfit];done)) ?_
        simp
        refine LoopT.round (fun E S=>∃ (i:Nat) (kk:List ByteArray),(i≤fs.length)∧E 0=some (.d (defsD l))∧E 2=some (.d (namesD (sortN kk)))∧E 7=some (.d (dI j))∧E 8=some (.d (dI i))∧(kk=upF l n fs i (k++[s]))) (upTo 8 fs.length) ⟨0,k++[s],by simp;rfl⟩ ?_
        rintro E S hk ⟨i,kk,hi,h0,h2,h7,h8,hkk⟩
        have hn:S.n=97:=by first | (simpa using hk.n)|(have hh:=hk.n;simp[dat_1,dat_1',dat_1'',dat_2,dat_2',dat_2'',dat_3,dat_3',dat_3'',hneg,hj,dlen,dfit] at hh;exact hh)
        have hg:S.gl=gl:=by first | (simpa using hk.gl)|(have hh:=hk.gl;simp[dat_1,dat_1',dat_1'',dat_2,dat_2',dat_2'',dat_3,dat_3',dat_3'',hneg,hj,dlen,dfit] at hh;exact hh)
        have hmd:S.md=[]:=by first | (simpa using hk.md)|(have hh:=hk.md;simp[dat_1,dat_1',dat_1'',dat_2,dat_2',dat_2'',dat_3,dat_3',dat_3'',hneg,hj,dlen,dfit] at hh;exact hh)
        simp[dat_2',dat_2'',hj,dlen,h0,h7,h8,hn,hg]
        have w:=wrap64 (n:=(i:Int)+1) (by omega) (by omega)
        have hKk:=upF_known (n:=n) (fs:=fs) (i:=i) hK2
        rw[← hkk] at hKk
        obtain⟨hKk,hlk⟩:=hKk
        refine BrT.dec (fun c=>?_) (fun c=>?_)
        · have hi2:i<fs.length:=by omega
          have flen:=flds_len fs
          have ffit:i*5+5≤fs.length*5:=by omega
          have fat:=flds_at fs hi2
          have hfo:=hfo _ (List.getElem_mem hi2)
          have hfk:=hfl.2 _ (List.getElem_mem hi2)
          have hnx:=upF_next (l:=l) (n:=n) hi2 (k++[s])
          rw[← hkk] at hnx
          generalize fs[i]=f at fat hfo hfk hnx
          obtain⟨fn,args,fty⟩:=f
          obtain⟨hal,hak⟩:=hfk.2.1
          simp only at hfo hnx hal hak
          have hBs:=p_l2Base (gl:=gl) fty 3 hfo.1
          have hu1:=known_use l n (baseT fty) kk hKk
          have hc1:=ih (baseT fty) kk hKk (by omega)
          generalize baseT fty=bt at hBs hu1 hc1 hnx
          generalize useG l n kk bt=u1 at hu1 hc1 hnx
          obtain⟨hKu,hlu⟩:=hu1
          cases fty with
          | mk ft flt fb =>
          simp only[Fld.cells,Typ.cells] at fat
          simp[dat_2',dat_2'',hj,dlen,h0,h7,h8,hn,c,flen,ffit,fat]
          repeat refine⟨DrawT.mk (by kernel_rfl),?_⟩
          refine CallT.p0 (hBs) (by first | rfl | (simp;done)|(simp[hg];done)) (by first | rfl | (simp;done)|(simp;rfl)|(simp[dat_1,dat_1',dat_1'',dat_2,dat_2',dat_2'',dat_3,dat_3',dat_3'',hneg,hj,dlen,dfit,h0,h2,h7,h8,hn,hg,hmd,c,hi2,w,flen,ffit,fat,Typ.cells];done)) ?_
          simp[h2,hn]
          repeat refine⟨DrawT.mk (by kernel_rfl),?_⟩
          refine CallT.p0 (hc1) (by first | rfl | (simp;done)|(simp[hg];done)) (by first | rfl | (simp;done)|(simp;rfl)|(simp[dat_1,dat_1',dat_1'',dat_2,dat_2',dat_2'',dat_3,dat_3',dat_3'',hneg,hj,dlen,dfit,h0,h2,h7,h8,hn,hg,hmd,c,hi2,w,flen,ffit,fat,Typ.cells];done)) ?_
          simp[hn]
          have o8:=h8
          refine LoopT.round (fun E S=>∃ (q:Nat) (u:Nat) (k2:List ByteArray),(q≤args.length)∧E 0=some (.d (defsD l))∧E 2=some (.d (namesD (sortN k2)))∧E 7=some (.d (dI j))∧E 8=some (.d (dI i))∧E 9=some (.op u 0)∧E 10=some (.d (dI q))∧S.B u=some ([.d (dS fn), .d (argsD args), .d (dS ft), .d (typsD flt), .d (dB fb)])∧(k2=upA l n args q u1)∧(u<S.nx)) (upTo 10 args.length) ⟨0,S.nx+8+8,u1,by simp[h0,h7,h8];((repeat' refine And.intro ?_ ?_)<;>(first | omega | rfl | (simp;done)|(((repeat first | rw[old_adv] | rw[old_setIn (by first | (simp;done) | fail)] | rw[old_set (by first | omega | (simp;done)|(simp;omega))] | rw[old_new (by first | omega | (simp;done)|(simp;omega))] | rw[old_tipIn (by first | (simp;done) | fail)] | rw[old_tip (by first | omega | (simp;done)|(simp;omega))] | refine old_left (by first | omega | (simp;done)|(simp;omega)) (by first | omega | (simp;done)|(simp;omega)) (by first | omega | (simp;done)|(simp;omega)) ?_);(first | exact ho | simp)))|(simp;omega)))⟩ ?_
          rintro E S hk ⟨q,u,k2,hq,h0,h2,h7,h8,h9,h10,hBu,hkk2,hu⟩
          have hn:S.n=97:=by first | (simpa using hk.n)|(have hh:=hk.n;simp[hn] at hh;exact hh)
          have hg:S.gl=gl:=by first | (simpa using hk.gl)|(have hh:=hk.gl;simp[hg] at hh;exact hh)
          have hmd:S.md=[]:=by first | (simpa using hk.md)|(have hh:=hk.md;simp[hmd] at hh;exact hh)
          simp[h9,h10,hBu,hn,hg]
          have w2:=wrap64 (n:=(q:Int)+1) (by omega) (by omega)
          have hKa:=upA_known (n:=n) (ars:=args) (i:=q) hKu
          rw[← hkk2] at hKa
          obtain⟨hKa,hla⟩:=hKa
          refine BrT.dec (fun c2=>?_) (fun c2=>?_)
          · have hj2:q<args.length:=by omega
            have alen:=args_len args
            have afit:q*10+10≤args.length*10:=by omega
            have aat:=args_at args hj2
            have haB:=hfo.2 _ (List.getElem_mem hj2)
            have hnx2:=upA_next (l:=l) (n:=n) hj2 u1
            rw[← hkk2] at hnx2
            generalize args[q]=a at aat haB hnx2
            have hty:=typ_of haB
            have hBa:=p_l2Base (gl:=gl) a.ty 3 hty
            have hc2:=ih (baseT a.ty) k2 hKa (by omega)
            have hN:argN a=baseT a.ty:=rfl
            rw[hN] at hnx2
            generalize baseT a.ty=bt at hBa hc2 hnx2
            obtain⟨an,aty,ah,ae⟩:=a
            cases aty with
            | mk at_ alt ab =>
            cases ae with
            | mk ek en et el ens =>
            simp only at hBa
            simp only[Arg.cells,Typ.cells,Val.cells,List.cons_append,List.nil_append] at aat
            have aat_1_3:=row_sub aat 1 3 (by decide)
            have aat_1_3':q*10+1+3≤_:=Nat.le_trans (by omega) afit
            simp[h0,h9,h10,hBu,hn,c2,aat_1_3,aat_1_3',alen]
            repeat refine⟨DrawT.mk (by kernel_rfl),?_⟩
            refine CallT.p0 (hBa) (by first | rfl | (simp;done)|(simp[hg];done)) (by first | rfl | (simp;done)|(simp;rfl)|(simp[dat_1,dat_1',dat_1'',dat_2,dat_2',dat_2'',dat_3,dat_3',dat_3'',hneg,hj,dlen,dfit,h0,h2,h7,h8,hn,hg,hmd,c,hi2,w,flen,ffit,fat,Typ.cells,h0,h2,h7,h8,h9,h10,hBu,hn,hg,hmd,c2,aat_1_3,aat_1_3',hj2,w2,alen,afit,Typ.cells];done)) ?_
            simp[h2,hn]
            repeat refine⟨DrawT.mk (by kernel_rfl),?_⟩
            refine CallT.p0 (hc2) (by first | rfl | (simp;done)|(simp[hg];done)) (by first | rfl | (simp;done)|(simp;rfl)|(simp[dat_1,dat_1',dat_1'',dat_2,dat_2',dat_2'',dat_3,dat_3',dat_3'',hneg,hj,dlen,dfit,h0,h2,h7,h8,hn,hg,hmd,c,hi2,w,flen,ffit,fat,Typ.cells,h0,h2,h7,h8,h9,h10,hBu,hn,hg,hmd,c2,aat_1_3,aat_1_3',hj2,w2,alen,afit,Typ.cells];done)) ?_
            simp[h0,h7,h8,h9,h10,hn,w2]
            exact⟨⟨q+1,by omega,_,_,⟨rfl,rfl⟩,rfl,by omega,hBu,hnx2.symm,by omega⟩,upTo_lt h10 (by simp) hj2⟩
          · have hj3:q=args.length:=by omega
            subst hj3
            simp[w,h0,h2,h7,h8,hn,c2]
            exact⟨⟨i+1,by omega,by rw[hnx,hkk2];exact⟨rfl,rfl⟩,by omega⟩,upTo_lt o8 (by simp) hi2⟩
        · have hi3:i=fs.length:=by omega
          subst hi3
          have hfin:z=sortN (if kind=4 then upW l n words words.length kk else kk):=by
            rw[← hzz,hkk]
            split<;>rfl
          simp[hn,c]
          refine LoopT.round (fun E S=>∃ (t:Nat) (k3:List ByteArray),(t≤words.length)∧E 0=some (.d (defsD l))∧E 2=some (.d (namesD (sortN k3)))∧E 7=some (.d (dI j))∧E 11=some (.d (dI t))∧(k3=upW l n words t kk)∧(t=0∨kind=4)) (upTo 11 words.length) ⟨0,kk,by simp[h0,h2,h7];rfl⟩ ?_
          rintro E S hk ⟨t,k3,ht,h0,h2,h7,h11,hkk3,hk4⟩
          have hn:S.n=97:=by first | (simpa using hk.n)|(have hh:=hk.n;simp[hn] at hh;exact hh)
          have hg:S.gl=gl:=by first | (simpa using hk.gl)|(have hh:=hk.gl;simp[hg] at hh;exact hh)
          have hmd:S.md=[]:=by first | (simpa using hk.md)|(have hh:=hk.md;simp[hmd] at hh;exact hh)
          simp[dat_3',dat_3'',hj,dlen,h0,h7,h11,hn,hg]
          have w2:=wrap64 (n:=(t:Int)+1) (by omega) (by omega)
          refine BrT.dec (fun c3=>?_) (fun c3=>?_)
          · have ht2:t<words.length:=by omega
            have hKw:=upW_known (n:=n) (ws:=words) (i:=t) hKk
            rw[← hkk3] at hKw
            have hnx3:=upW_next (l:=l) (n:=n) ht2 kk
            rw[← hkk3] at hnx3
            have hc3:=ih words[t] k3 hKw.1 (by have:=hKw.2;omega)
            simp[dat_1',dat_1'',hj,dlen,h0,h7,hn,c3]
            refine BrT.dec (fun k4=>?_) (fun k4=>?_)
            · simp[dat_3',dat_3'',hj,dlen,h0,h2,h7,h11,hn,c3,k4]
              repeat refine⟨DrawT.mk (by kernel_rfl),?_⟩
              refine CallT.p0 (hc3) (by first | rfl | (simp;done)|(simp[hg];done)) (by first | rfl | (simp;done)|(simp;rfl)|(simp[dat_1,dat_1',dat_1'',dat_2,dat_2',dat_2'',dat_3,dat_3',dat_3'',hneg,hj,dlen,dfit,h0,h2,h7,h8,hn,hg,hmd,c,h0,h2,h7,h11,hn,hg,hmd,c3,ht2,w2,k4];done)) ?_
              simp[h0,h7,h11,hn,w2]
              exact⟨⟨t+1,by omega,by rw[hnx3];exact⟨rfl,rfl⟩,by omega⟩,upTo_lt h11 (by simp) ht2⟩
            · have ht0:t=0:=hk4.resolve_right k4
              rw[ht0,upW_zero] at hkk3
              rw[if_neg k4, ← hkk3] at hfin
              simp[h2,hn,k4,hfin]
          · have ht3:t=words.length:=by omega
            subst ht3
            have hq:z=sortN k3:=by
              rw[hfin]
              split
              · rw[hkk3]
              · rename_i h4
                have h0:=hk4.resolve_right h4
                rw[hkk3,h0,upW_zero]
            simp[h2,hn,c3,hq]
end Go.Proofs.YtlmpjblmmpddeaaGreat
namespace Go.Sh
open Go.RowKit (Below)
variable {P:Program}{S:St}
theorem LCall.ofOwn {f:FuncId}{ss:List SV}{r:SV}{K:Nat}{B:Nat→Option (List SV)} (hf:FnOk P f)
    (h:∀ (m0:Nat→Nat) (w0:World) (G:Gh) (E:Env) (F:Nat→Prop) (a:Act) (w:World) (vals:List Value),Rel m0 w0 G E S F a w→(∀ b,S.nx≤b→F b)→vals.length=ss.length→(∀ j (h:j<ss.length) (h':j<vals.length),VR G w ss[j] vals[j]) →
      Calls P f vals.toArray w fun e w'=>∃ u Bx,e=.returned u∧VR (ghB Bx) w' r u∧(∀ b X,Bx b=some X→b<K)∧(∀ b cs,B b=some cs→OwnB Bx w.heap.size w' b cs)∧(∀ b b' X,B b≠none→B b'≠none→Bx b=some X→Bx b'=some X→b=b')∧Below w.heap.size w w'):LCall P f ss S (r.shift S.nx) (addS S K B):=by
  refine⟨hf,addS_keeps S K B,fun m0 w0 G E F a w vals hr hF hl hv=>?_⟩
  refine (h m0 w0 G E F a w vals hr hF hl hv).mono ?_
  rintro e w' ⟨u,Bx,rfl,hu,hBx,hB,hinj,hbel⟩
  obtain⟨k1,k2⟩:=called_same hr hbel
  have hold:∀ b X,G.box b=some X→b<S.nx:=fun b X hb=>by
    rcases Nat.lt_or_ge b S.nx with h1 | h1
    · exact h1
    · rw[(hr.fresh b (hF b h1)).1] at hb;cases hb
  let G2:Gh:={ G with box:=fun b=>if b<S.nx then G.box b else Bx (b - S.nx) }
  have g2new:∀ b X,Bx b=some X→G2.box (S.nx+b)=some X:=fun b X hb=>by
    show (if S.nx+b<S.nx then _ else _)=_
    rw[if_neg (by omega),Nat.add_sub_cancel_left];exact hb
  have g2old:∀ b X,G.box b=some X→G2.box b=some X:=fun b X hb=>by
    show (if b<S.nx then _ else _)=_
    rw[if_pos (hold b X hb)];exact hb
  have f:Fut G w' G2 w':=Fut.mk' (.refl w') g2old (fun i B v k cap ht=>⟨B,v,k,cap,ht,Nat.le_refl _,fun _=>⟨rfl,rfl,rfl,rfl⟩⟩) (fun _=>Nat.le_refl _) (fun _ _ _=>rfl) (fun _ _ h=>h)
  have oldO:∀ b X,G.obj b=some X→b<S.nx:=fun b X hb=>by
    rcases Nat.lt_or_ge b S.nx with h1 | h1
    · exact h1
    · rw[hr.more.ofresh b (hF b h1)] at hb;cases hb
  have oldB:∀ b cs,(addS S K B).B b=some cs→b<S.nx→S.B b=some cs:=fun b cs hb hlt=>by simpa[hlt] using hb
  have newB:∀ b cs,(addS S K B).B b=some cs→¬ b<S.nx→∃ b' cs',b=S.nx+b'∧B b'=some cs'∧cs=cs'.map (SV.shift S.nx):=fun b cs hb hlt=>by
    simp only[addS_B,if_neg hlt] at hb
    split at hb
    · simp only[Option.map_eq_some_iff] at hb
      obtain⟨cs',h1,h2⟩:=hb
      exact⟨b - S.nx,cs',by omega,h1,h2.symm⟩
    · cases hb
  have oldX:∀ b X,b<S.nx→(addS S K B).B b≠none→G2.box b=some X→X<w.heap.size:=fun b X hlt hb hg=>by
    obtain⟨cs,hcs⟩:=Option.ne_none_iff_exists'.1 hb
    have hgb:G.box b=some X:=by have:=hg;simp only[G2,if_pos hlt] at this;exact this
    obtain⟨Y,us,T,g1,g2,_⟩:=hr.box b cs (oldB b cs hcs hlt) (hr.boxOf (oldB b cs hcs hlt) hgb)
    have:G2.box b=some Y:=g2old b Y g1
    rw[hg] at this;cases this
    exact lt_of_heap g2
  have newX:∀ b X,¬ b<S.nx→(addS S K B).B b≠none→G2.box b=some X→w.heap.size≤X:=fun b X hlt hb hg=>by
    obtain⟨cs,hcs⟩:=Option.ne_none_iff_exists'.1 hb
    obtain⟨b',cs',rfl,h1,h2⟩:=newB b cs hcs hlt
    obtain⟨Y,us,T,g1,g2,g3,g4,g5,_⟩:=hB b' cs' h1
    have:=g2new b' Y g1
    rw[hg] at this;cases this
    exact g5
  refine⟨u,G2,rfl,hu.shiftTo g2new,⟨fun k s hk=>(k1.env k s hk).fut f,k1.size,k1.few,fun b cs hb ho=>?_,fun b b' X hb hb' e1 e2=>?_,k1.tip,k1.tinj,k1.tlt,fun i b X v k c hi hb e=>?_,fun b hb=>?_,k1.new,k1.low,k1.below,k1.defers,k1.glob,k1.more.keep f (.refl w') (fun b cs X hb ho=>oldB b cs hb (oldO b X ho)) rfl (fun b X ho=>if_pos (oldO b X ho)) rfl (fun _ hb=>hb.1) rfl⟩,k2.trans f⟩
  · by_cases hlt:b<S.nx
    · obtain⟨X,us,T,g1,g2,g3,g4,g5,gu0,g6⟩:=k1.box b cs (oldB b cs hb hlt) ho
      exact⟨X,us,T,g2old b X g1,g2,g3,g4,g5,gu0,fun j hj hj'=>⟨(g6 j hj hj').1,(g6 j hj hj').2.fut f⟩⟩
    · obtain⟨b',cs',rfl,h1,rfl⟩:=newB b cs hb hlt
      obtain⟨X,us,T,g1,g2,g3,gu0,g5,g6⟩:=hB b' cs' h1
      refine⟨X,us,T,g2new b' X g1,g2,by simpa using g3,hr.new X g5,Nat.le_trans hr.below.size g5,gu0,fun j hj hj'=>?_⟩
      have hj2:j<cs'.length:=by simpa using hj
      simp only[List.getElem_map,shift_cell]
      exact⟨(g6 j hj2 hj').1,(g6 j hj2 hj').2.shiftTo g2new⟩
  · by_cases hlt:b<S.nx
    · by_cases hlt':b'<S.nx
      · have e3:G.box b=some X:=by have:=e1;simp only[G2,if_pos hlt] at this;exact this
        have e4:G.box b'=some X:=by have:=e2;simp only[G2,if_pos hlt'] at this;exact this
        have nb:∀ b,b<S.nx→(addS S K B).B b≠none→S.B b≠none:=fun b hl hn=>by simpa[hl] using hn
        exact hr.inj b b' X (nb b hlt hb) (nb b' hlt' hb') e3 e4
      · have:=oldX b X hlt hb e1;have:=newX b' X hlt' hb' e2;omega
    · by_cases hlt':b'<S.nx
      · have:=oldX b' X hlt' hb' e2;have:=newX b X hlt hb e1;omega
      · obtain⟨cs,hcs⟩:=Option.ne_none_iff_exists'.1 hb
        obtain⟨cs2,hcs2⟩:=Option.ne_none_iff_exists'.1 hb'
        obtain⟨c,cs',rfl,h1,_⟩:=newB b cs hcs hlt
        obtain⟨c',cs2',rfl,h2,_⟩:=newB b' cs2 hcs2 hlt'
        have e3:Bx c=some X:=by have:=e1;simp only[G2,if_neg hlt,Nat.add_sub_cancel_left] at this;exact this
        have e4:Bx c'=some X:=by have:=e2;simp only[G2,if_neg hlt',Nat.add_sub_cancel_left] at this;exact this
        rw[hinj c c' X (by rw[h1];simp) (by rw[h2];simp) e3 e4]
  · by_cases hlt:b<S.nx
    · have e3:G.box b=some X:=by have:=e;simp only[G2,if_pos hlt] at this;exact this
      exact hr.tbox i b X v k c hi (by simpa[hlt] using hb) e3
    · have:=newX b X hlt hb e
      have:=hr.tlt i X v k c hi
      omega
  · obtain⟨h1,h2⟩:=hr.fresh b hb.1
    refine⟨?_,h2⟩
    have hnb:=hb.2
    simp only[addS_nx] at hnb
    show (if b<S.nx then G.box b else Bx (b - S.nx))=none
    split
    · exact h1
    · cases hx:Bx (b - S.nx) with
      | none=>rfl
      | some X=>have:=hBx _ _ hx;omega
end Go.Sh
namespace Go.Proofs.YtlmpjblmmpddeaaGreat
open Go.Sh Go.Maps Go.Proofs
open Go.RowKit (Below)
open Go.WideElems (Fit rd rg rd_mk rg_of)
variable {gl:Nat→Option D}
theorem canL_texts:∀ (k:Nat) (l:List ByteArray),canL k (l.map fun s=>Sk.d (.string s))=ldT l
  | _,[]=>rfl
  | k,s::r=>by
    have:=canL_texts k r
    simpa[canL,Sk.can,Sk.cnt] using this
theorem l_sortedN {S:St}{b q:Nat}{ns:List ByteArray}{vs:List SV} (hB:S.B b=some [.mv q]) (hq:S.B q=some [.mc (ns.map dS) vs]) (hnd:ns.Nodup) (hok:NamesOk ns) (hbig:ns.length≤4294967296) :
    LCall Tryz.prog 95 [.fn (.func 151) [] [.op b 0]] S (((skS false (sortN ns)).can 0).sv.shift S.nx) (addS S (cntL [skS false (sortN ns)]) (newL [skS false (sortN ns)])):=by
  refine LCall.ofOwn ⟨_,Tryz.func95,by kernel_rfl,by kernel_rfl⟩ (fun m0 w0 G E F a w vals hr hF hl hv=>?_)
  obtain⟨u,rfl⟩:∃ u,vals=[u]:=by
    match vals,hl with
    | [u],_=>exact⟨u,rfl⟩
  have hu:=hv 0 (by simp) (by simp)
  simp only[List.getElem_cons_zero] at hu
  cases hu with
  | fn hl1 hl2 hv1 hv2 =>
  rename_i us ws
  obtain rfl:us=[]:=List.eq_nil_of_length_eq_zero hl1
  obtain⟨p,rfl⟩:∃ p,ws=[p]:=by
    match ws,hl2 with
    | [p],_=>exact⟨p,rfl⟩
  have hp:=hv2 0 (by simp) (by simp)
  simp only[List.getElem_cons_zero] at hp
  cases hp with
  | op hbx =>
  rename_i B
  have hobj:G.obj b=none:=by
    cases ho:G.obj b with
    | none=>rfl
    | some X=>have:=(hr.more.obj b _ X hB ho).1;rw[hbx] at this;cases this
  obtain⟨B',cs,T,h1,h2,h3, -, -, -,h4⟩:=hr.box b _ hB hobj
  obtain rfl:B'=B:=by rw[hbx] at h1;exact (Option.some.inj h1).symm
  have hsz:0<cs.size:=h3
  obtain⟨-,h5⟩:=h4 0 (by simp) hsz
  simp only[List.getElem_cons_zero] at h5
  have hcell:w.cell? ⟨B',0,none⟩=some cs[0]:=by simp[World.cell?,h2]
  have hBlt:B'<w.heap.size:=(Array.getElem?_eq_some_iff.1 h2).1
  generalize cs[0]=cv at hcell h5
  cases h5 with
  | mv hgo =>
  rename_i Bm
  obtain⟨-, -, -,hor⟩:=hr.more.obj q _ Bm hq hgo
  cases hor with
  | mp es hb he1 he2 hborn hk hvv =>
  have hkeys:∀ j (h:j<ns.length) (h':j<es.size),es[j].key=.string ns[j]:=fun j h h'=>by
    have:=hk j (by simpa using h) h'
    simp only[List.getElem_map] at this
    generalize es[j].key=q at this ⊢
    cases this;rfl
  obtain⟨hfit,hent⟩:=fit_names (P:=Tryz.prog) (T:=9) (by kernel_rfl) (by simpa using he1) hborn hkeys hnd hok
  have hown:w.ownsMap Tryz.prog 9 noR Bm es.size (.map ((es.toList.map (rg Tryz.prog 9 noR)).foldr DataW.insert [])):=⟨es,es.size,hb,hfit,Nat.le_refl _,rfl⟩
  have hsize:Maps.size (DataW.map ((es.toList.map (rg Tryz.prog 9 noR)).foldr DataW.insert []))=ns.length:=by
    rw[Maps.size_eq,DataW.length_sorted,hent,List.length_map]
  have hseq:=AnyZ.keys_gives (ρ:=Tryz.keys96_ren) { Tryz.keys96 with } Fence.wide 2 trivial rfl (by omega) B' Bm es.size _ w hBlt hcell hown
  have hc:=AnyZ.sorted_in Tryz.sorted95 Fence.wide 5 trivial trivial trivial trivial rfl (by omega) (sorts_here _) (enters_of Tryz.func150 (by kernel_rfl) rfl) 151 #[.pointer (some ⟨B',0,none⟩)] trivial (enters_of Tryz.func151 (by kernel_rfl) rfl) _ _ (by rw[hsize];simp only[maxLen];omega) (by rw[hsize];omega) w hseq
  refine (callsIn_wide.1 hc).mono ?_
  rintro e w' ⟨v,ss,rfl,hperm,hrow,hnil,hbel⟩
  have hperm:ss.Perm (ns.map bsL):=hperm.trans (keys_names hent)
  have hsort:(ss.mergeSort leB).map encStr=(sortN ns).map Value.string:=by
    rw[mergeSort_of_perm hperm]
    simp[sortN,ofL]
  have hlen:ss.length=(sortN ns).length:=by rw[sortN_len,hperm.length_eq,List.length_map]
  rw[hsort] at hrow
  obtain⟨hr1,hrow⟩:=hrow
  rcases hrow with ⟨rfl,hz⟩ | ⟨g,cap,cur,rfl,hg,hcur,hcap,hcap2,hsz2,hval⟩
  · have hz:sortN ns=[]:=List.eq_nil_of_length_eq_zero (by omega)
    rw[hz,show skS false ([]:List ByteArray)=.nil from rfl]
    refine⟨_,fun _=>none,rfl,?_,?_,?_,?_,hbel⟩
    · show VR _ _ (.fl [] 0) _
      exact .fl .nil (fun A k c e=>by cases e;rfl)
    · intro b X h;cases h
    · intro b cs h;exact absurd h (by simp[newL,canL,Sk.can,varsL,Ld.vars])
    · intro b b' X _ _ h;cases h
  · rw[hlen] at hcap hval
    by_cases hz:sortN ns=[]
    · exfalso
      have h0:ss=[]:=List.eq_nil_of_length_eq_zero (by rw[hlen,hz];rfl)
      have:=hnil.2 h0
      cases this
    · have hn0:(sortN ns).length≠0:=fun h=>hz (List.eq_nil_of_length_eq_zero h)
      have hsk:skS false (sortN ns)=.row none (sortN ns).length ((sortN ns).map fun s=>.d (.string s)):=by
        unfold skS;rw[skR_pos hn0]
      rw[hsk]
      refine⟨_,fun b=>if b=0 then some g else none,rfl,?_,?_,?_,?_,hbel⟩
      · show VR _ _ (.os 0 0 (sortN ns).length) _
        rw[hlen]
        exact .os rfl (by omega)
      · intro b X h
        have h:(if b=0 then some g else none)=some X:=h
        split at h
        · simp[cntL,Sk.cnt];omega
        · cases h
      · intro b cs h
        have e:newL [Sk.row none (sortN ns).length ((sortN ns).map fun s=>Sk.d (.string s))] b=if b=0 then some (cellS (sortN ns)) else none:=by
          simp only[newL,canL,Sk.can,varsL,Ld.vars,canL_texts,ldT_vars,ldT_svs,List.append_nil,lookN,List.map_map]
          rfl
        rw[e] at h
        split at h
        · rename_i hb0
          subst hb0
          simp only[Option.some.injEq] at h
          subst h
          refine⟨g,cur,(_,(0,0)),rfl,hcur,?_,rfl,hg,fun j hj hj'=>⟨?_,?_⟩⟩
          · simp[hsz2];omega
          · simp;rfl
          · have hjl:j<(sortN ns).length:=by simpa using hj
            have hq2:(cur.toList.take ((sortN ns).length*1))[j]?=((sortN ns).map Value.string)[j]?:=by rw[hval]
            rw[List.getElem?_take_of_lt (by omega),Array.getElem?_toList] at hq2
            simp[hjl,hj'] at hq2
            simp only[List.getElem_map]
            rw[hq2]
            exact .d (.v rfl)
        · cases h
      · intro b b' X h1 h2 h3 h4
        have h3:(if b=0 then some g else none)=some X:=h3
        have h4:(if b'=0 then some g else none)=some X:=h4
        split at h3
        · split at h4
          · omega
          · cases h4
        · cases h3
end Go.Proofs.YtlmpjblmmpddeaaGreat
namespace Go.Proofs.YtlmpjblmmpddeaaGreat
open Go.Sh
variable {gl:Nat→Option D}
def useL (l:List Def):List ByteArray:=useG l (l.length+1) (useG l (l.length+1) [] queryS) mutS
def usedN (l:List Def):List ByteArray:=if checkB l=0 then sortN (useL l) else []
theorem check_ten {l:List Def} (h:checkB l=0):l.length≤10∧(∀ d∈l,defB d=true)∧schL l=l:=by
  unfold checkB at h
  split at h
  · cases h
  · split at h
    · cases h
    · rename_i h1 h2
      refine⟨by omega,fun d hd=>List.all_eq_true.1 (Decidable.not_not.1 h2) d hd,?_⟩
      unfold checkS at h
      split at h
      · cases h
      · rename_i h3
        exact schL_self (Decidable.not_not.1 h3)
theorem known_nil (U:List ByteArray):KnownIn U []:=⟨List.nodup_nil,by simp⟩
theorem useL_known (l:List Def):KnownIn (defNames l) (useL l):=(known_use l _ mutS _ (known_use l _ queryS [] (known_nil _)).1).1
theorem names_sz {l:List Def} (hok:∀ d∈l,DefOk d):∀ s∈defNames l,s.size≤4611686018427387904:=fun s hs=>by
  obtain⟨d,hd,rfl⟩:=List.mem_map.1 hs
  exact (hok d hd).1
theorem known_ok {l:List Def} (h10:l.length≤10) (hok:∀ d∈l,DefOk d) {k:List ByteArray} (h:KnownIn (defNames l) k):k.length≤10∧∀ s∈k,s.size≤4611686018427387904:=by
  have:=nodup_len h.nodup h.sub
  refine⟨by simp at this;omega,fun s hs=>names_sz hok s (h.sub s hs)⟩
set_option maxHeartbeats 1000000 in
theorem p_spUsed (l:List Def) (hl:l.length≤1048576) (hsm:∀ d∈l,DefSm d):PCall Tryz.prog gl 43 [defsD l] (namesD (usedN l)):=by
  have hC:=p_spCheck (gl:=gl) l hl hsm
  have hok:∀ d∈l,DefOk d:=fun d hd=>def_ok (hsm d hd)
  by_cases hz:checkB l=0
  · obtain⟨h10,hB,_⟩:=check_ten hz
    have hd:∀ d∈l,defB d=true∧DefOk d:=fun d hm=>⟨hB d hm,hok d hm⟩
    have e:usedN l=sortN (useL l):=if_pos hz
    have k1:=known_use l (l.length+1) queryS [] (known_nil _)
    have c1:=p_l9Used (gl:=gl) l (by omega) hd (l.length+1) queryS [] (known_nil _) (by simp)
    have c2:=p_l9Used (gl:=gl) l (by omega) hd (l.length+1) mutS _ k1.1 (by simp;omega)
    have e2:useG l (l.length+1) (useG l (l.length+1) [] queryS) mutS=useL l:=rfl
    have e3:sortN []=[]:=by simp[sortN]
    rw[e3] at c1
    rw[e2] at c2
    generalize useG l (l.length+1) [] queryS=u1 at c1 c2
    refine PCall.by_ (md:=[]) Tryz.func43 rfl (by kernel_rfl) (n:=12) Tryz.ntmps43 (by simp) (by decide) rfl ?_
    simp
    repeat refine⟨DrawT.mk (by kernel_rfl),?_⟩
    refine CallT.p0 (hC) (by first | rfl | (simp;done)|(simp;done)) (by first | rfl | (simp;done)|(simp;rfl)|(simp;done)) ?_
    simp
    simp[hz]
    repeat refine⟨DrawT.mk (by kernel_rfl),?_⟩
    refine CallT.p0 (c1) (by first | rfl | (simp;done)|(simp[hz];done)) (by first | rfl | (simp;done)|(simp;rfl)|(simp[hz];done)) ?_
    simp
    repeat refine⟨DrawT.mk (by kernel_rfl),?_⟩
    refine CallT.p0 (c2) (by first | rfl | (simp;done)|(simp[hz];done)) (by first | rfl | (simp;done)|(simp;rfl)|(simp[hz];done)) ?_
    simp
    simp[e]
  · have e:usedN l=[]:=if_neg hz
    refine PCall.by_ (md:=[]) Tryz.func43 rfl (by kernel_rfl) (n:=12) Tryz.ntmps43 (by simp) (by decide) rfl ?_
    simp
    repeat refine⟨DrawT.mk (by kernel_rfl),?_⟩
    refine CallT.p0 (hC) (by first | rfl | (simp;done)|(simp;done)) (by first | rfl | (simp;done)|(simp;rfl)|(simp;done)) ?_
    simp
    simp[hz,e]
set_option maxHeartbeats 1000000 in
theorem l_keysV (S0:St) (b:Nat) (hb:b<S0.nx):LCall Tryz.prog 96 [.mv b] S0 (.fn (.func 151) [] [.op S0.nx 0]) (leftS S0 2 [(S0.nx,[.mv b])] []):=by
  refine LCall.byE (md:=[]) (leftS_keeps _ _ _ _) (by simp[SV.lt,ltS]<;>omega) Tryz.func96 rfl (by kernel_rfl) (n:=4) Tryz.ntmps96 (by simp) (by decide) rfl ?_
  simp
  refine elder_old (bs:=[]) (ts:=[]) (by ((repeat first | rw[old_adv] | rw[old_setIn (by first | (simp;done) | fail)] | rw[old_set (by first | omega | (simp;done)|(simp;omega))] | rw[old_new (by first | omega | (simp;done)|(simp;omega))] | rw[old_tipIn (by first | (simp;done) | fail)] | rw[old_tip (by first | omega | (simp;done)|(simp;omega))] | refine old_left (by first | omega | (simp;done)|(simp;omega)) (by first | omega | (simp;done)|(simp;omega)) (by first | omega | (simp;done)|(simp;omega)) ?_);(first | exact ho | simp))) ?_ ?_ ?_ ?_ ?_ ?_
  · simp
  · simp
  · simp[ltS,SV.lt];omega
  · simp
  · simp
  · simp
set_option maxHeartbeats 1000000 in
theorem g_SchemaUsed (l:List Def) (hl:l.length≤1048576) (hsm:∀ d∈l,DefSm d):rowF1 gl 41 [defsD l] (skS false (usedN l)):=by
  have hC:=p_imCheck (gl:=gl) l hl hsm
  have hok:∀ d∈l,DefOk d:=fun d hd=>def_ok (hsm d hd)
  by_cases hz:checkB l=0
  · obtain⟨h10,hB,hself⟩:=check_ten hz
    have hd:∀ d∈l,defB d=true∧DefOk d:=fun d hm=>⟨hB d hm,hok d hm⟩
    have e:usedN l=sortN (useL l):=if_pos hz
    have hS:=p_schemaOf (gl:=gl) l (by omega)
    rw[hself] at hS
    have k1:=known_use l (l.length+1) queryS [] (known_nil _)
    have c1:=fun S0 b=>l_use l hd (l.length+1) queryS [] S0 b (known_nil _) (by simp)
    have c2:=fun S0 b=>l_use l hd (l.length+1) mutS _ S0 b k1.1 (by simp;omega)
    have e2:useG l (l.length+1) (useG l (l.length+1) [] queryS) mutS=useL l:=rfl
    rw[e2] at c2
    obtain⟨u1,hu1⟩:∃ u,useG l (l.length+1) [] queryS=u:=⟨_,rfl⟩
    rw[hu1] at c1 c2
    have hn1:mcM (oneM [])=[.mc [] []]:=rfl
    rw[hn1] at c1
    rw[e]
    have kL:=useL_known l
    obtain⟨kl1,kl2⟩:=known_ok h10 hok kL
    have c3:=fun S b q hB hq=>l_sortedN (S:=S) (b:=b) (q:=q) (ns:=useL l) (vs:=vsM (oneM (useL l))) hB hq kL.nodup ⟨by omega,kl2⟩ (by omega)
    have hks:(useL l).map dS=ksM (oneM (useL l)):=by simp[ksM,oneM,Function.comp_def]
    rw[hks] at c3
    generalize useL l=u2 at c2 c3 hks
    refine FCall.by_ (md:=[]) Tryz.func41 rfl (by kernel_rfl) (n:=20) Tryz.ntmps41 (by simp) (by decide) rfl ?_
    simp
    repeat refine⟨DrawT.mk (by kernel_rfl),?_⟩
    refine CallT.p0 (hC) (by first | rfl | (simp;done)|(simp;done)) (by first | rfl | (simp;done)|(simp;rfl)|(simp;done)) ?_
    simp
    simp[hz]
    repeat refine⟨DrawT.mk (by kernel_rfl),?_⟩
    refine CallT.p0 (hS) (by first | rfl | (simp;done)|(simp[hz];done)) (by first | rfl | (simp;done)|(simp;rfl)|(simp[hz];done)) ?_
    simp
    refine CallT.la (c1 _ _ ?_ ?_) (by repeat' (first | exact trivial | exact Or.inl rfl | exact Or.inr ⟨_,by first | (simp;done)|(simp;rfl),rfl⟩ | refine And.intro ?_ ?_)) rfl ?_
    · simp
    · simp
    simp
    refine CallT.la (c2 _ _ ?_ ?_) (by repeat' (first | exact trivial | exact Or.inl rfl | exact Or.inr ⟨_,by first | (simp;done)|(simp;rfl),rfl⟩ | refine And.intro ?_ ?_)) rfl ?_
    · simp
    · simp
    simp
    refine CallT.l (l_keysV _ _ ?_) rfl ?_
    · simp
    simp
    refine CallT.l (c3 _ _ 7 ?_ ?_) rfl ?_
    · simp
    · simp
    simp
    exact fin_1 (At.added _ [skS false (sortN u2)]) (can_sh _ _) rfl
  · have e:usedN l=[]:=if_neg hz
    rw[e]
    refine FCall.by_ (md:=[]) Tryz.func41 rfl (by kernel_rfl) (n:=20) Tryz.ntmps41 (by simp) (by decide) rfl ?_
    simp
    repeat refine⟨DrawT.mk (by kernel_rfl),?_⟩
    refine CallT.p0 (hC) (by first | rfl | (simp;done)|(simp;done)) (by first | rfl | (simp;done)|(simp;rfl)|(simp;done)) ?_
    simp
    simp[hz]
    exact fin_1 (lo:=0) (hi:=0) (x:=.nil) (sk:=skS false []) (At.cons_nil At.nil) rfl rfl
@[simp] theorem binS_sgeq {P:Program} (T:TypeId) (a b:ByteArray):binS P .geq T (.string a) (.string b)=some (.bool (!Op.bytesLess a.toList b.toList)):=(rfl)
theorem useG_more (l:List Def):∀ (n:Nat) (k:List ByteArray) (s y:ByteArray),y∈k→y∈useG l n k s
  | 0,k,s,y,h=>h
  | n+1,k,s,y,h=>by
    have fold:∀ (x k:List ByteArray),y∈k→y∈x.foldl (useG l n) k:=fun x=>by
      induction x with
      | nil=>exact fun k h=>h
      | cons z r ih=>exact fun k h=>ih _ (useG_more l n k z y h)
    rw[useG]
    split
    · exact fold _ _ (List.mem_append_left _ h)
    · exact h
theorem used_query {L:List Def} (hz:checkB L=0):queryS∈usedN L:=by
  obtain⟨_,_,_,_,_,a6,_⟩:=check_zero.1 hz
  unfold rootsB at a6
  simp only[Bool.and_eq_true,decide_eq_true_eq] at a6
  have hs:(atD L queryS).isSome=true:=by
    cases ha:atD L queryS with
    | none =>
      have h1:=a6.1
      rw[kindL,defL_none ha] at h1
      exact absurd h1 (by decide)
    | some j=>rfl
  have fold:∀ (n:Nat) (x k:List ByteArray),queryS∈k→queryS∈x.foldl (useG L n) k:=fun n x=>by
    induction x with
    | nil=>exact fun k h=>h
    | cons z r ih=>exact fun k h=>ih _ (useG_more L n k z _ h)
  unfold usedN
  rw[if_pos hz,mem_sortN]
  unfold useL
  refine useG_more L _ _ _ _ ?_
  rw[useG,if_pos ⟨hs,rfl⟩]
  exact fold _ _ _ (by simp)
theorem used_name {L:List Def}:∀ s∈usedN L,s∈defNames L:=fun s hs=>by
  unfold usedN at hs
  split at hs
  · exact (useL_known L).sub s (mem_sortN.1 hs)
  · cases hs
theorem used_len {L:List Def}:(usedN L).length≤L.length:=by
  unfold usedN
  split
  · rw[sortN_len]
    have:=nodup_len (useL_known L).nodup (useL_known L).sub
    simpa using this
  · simp
theorem used_lt {L:List Def}{i:Nat} (hi:i+1<(usedN L).length):ltN (usedN L)[i] (usedN L)[i+1]=true:=by
  unfold usedN at hi ⊢
  split at hi
  · rename_i hz
    have hn:(sortN (useL L)).Nodup:=(sortN_perm _).nodup_iff.2 (useL_known L).nodup
    have h1:=List.pairwise_iff_getElem.1 (sortN_sorted (useL L)) i (i+1) (by omega) hi (by omega)
    have h2:=List.pairwise_iff_getElem.1 hn i (i+1) (by omega) hi (by omega)
    simp only[hz,if_true]
    rw[ltN_iff]
    refine Decidable.byContradiction fun hn=>h2 (bsL_inj (List.le_antisymm h1 (List.not_lt.1 hn)))
  · simp at hi
def anyUp (s:ByteArray) (L:List Def) (j:Nat):Bool:=(L.take j).any fun d=>decide (d.name=s)
theorem anyUp_next {s:ByteArray}{L:List Def}{j:Nat} (hj:j<L.length):anyUp s L (j+1)=(anyUp s L j || decide (L[j].name=s)):=any_take hj
theorem anyUp_all {s:ByteArray}{L:List Def} (h:s∈defNames L):anyUp s L L.length=true:=by
  obtain⟨d,hd,e⟩:=List.mem_map.1 h
  unfold anyUp
  rw[List.take_length,List.any_eq_true]
  exact⟨d,hd,by simp[e]⟩
theorem call_data {S:St}{f:FuncId}{ss:List SV}{ds:List D}{x:Sk}{n:Nat}{gl:Nat→Option D} (h:FCall Tryz.prog gl f ds (x.can 0).sv (cntL [x]) (newL [x])) (hg:S.gl=gl) (hd:mapO (frz S.B n) ss=some ds) :
    ∃ r S',LCall Tryz.prog f ss S r S'∧(r=.d x.data∧GotD S S'):=by
  obtain⟨S',hL,hG⟩:=call_row h hg hd
  have hA:At (S'.hi S.nx) S.nx (S.nx+cntL [x]) [x.can S.nx]:=by
    have h1:=hG.new
    simp only[canL] at h1
    exact h1.keep (fun b k1 k2=>hi_B k1)
  have hf:=(frz_ld (B:=(S'.hi S.nx).B) (x.can S.nx) ((x.can S.nx).sh.dep+1) (fun p hp=>hA.has p (by simpa[varsL] using hp)) (by omega)).1
  rw[can_sh] at hf
  refine⟨_,_,hL.frozen S.nx hf,rfl,hG.n,hG.gl,hG.md,by simp;have:=hG.nx;omega,fun y hy=>?_,fun y hy=>by simp[hG.T]⟩
  have:¬ S.nx≤y:=by omega
  simp[this,hG.old y hy]
theorem p_pgTexts (l:List ByteArray) (hl:l.length≤4611686018427387904):PCall Tryz.prog gl 42 [namesD l,namesD l] (dB true):=by
  refine PCall.by_ (md:=[]) Tryz.func42 rfl (by kernel_rfl) (n:=26) Tryz.ntmps42 (by simp) (by decide) rfl ?_
  simp
  refine LoopT.round (fun E S=>∃ (i:Nat),(i≤l.length)∧E 0=some (.d (namesD l))∧E 1=some (.d (namesD l))∧E 5=some (.d (dI i))) (upTo 5 l.length) ⟨0,by simp⟩ ?_
  rintro E S hk ⟨i,hi,h0,h1,h5⟩
  have hn:S.n=26:=by first | (simpa using hk.n)|(have hh:=hk.n;simp at hh;exact hh)
  have hg:S.gl=gl:=by first | (simpa using hk.gl)|(have hh:=hk.gl;simp at hh;exact hh)
  have hmd:S.md=[]:=by first | (simpa using hk.md)|(have hh:=hk.md;simp at hh;exact hh)
  simp[h0,h5,hn,hg]
  have w:=wrap64 (n:=(i:Int)+1) (by omega) (by omega)
  refine BrT.dec (fun c=>?_) (fun c=>?_)
  · have hi2:i<l.length:=by omega
    simp[h0,h1,h5,hn,hg,c,w]
    refine⟨DrawT.mk (by kernel_rfl),?_⟩
    exact⟨⟨i+1,hi2,by omega⟩,upTo_lt h5 (by simp) hi2⟩
  · simp[hn,c]
set_option maxHeartbeats 8000000 in
theorem l_drawUsed (S0:St) (c:List UInt8) (hc:c.length≤140737488351232):∃ r S',LCall Tryz.prog 40 [.d (codeD c)] S0 r S'∧∃ (L:List Def),r=.d (defsD L)∧(∀ d∈L,DefK d)∧L.length≤20∧S'.n=S0.n∧S'.gl=S0.gl∧S'.md=S0.md:=by
  have hco:(codeOf c).length≤2000:=by simp[codeOf];omega
  refine LCall.ex_ (md:=[]) Tryz.func40 rfl (by kernel_rfl) (by kernel_rfl) (n:=6) Tryz.ntmps40 (by simp) (by decide) rfl ?_
  simp
  refine CallT.x (x_open _ c hc) rfl (fun r0 S1 h1=>?_)
  obtain⟨R,rfl,i1,i2,S1_n,S1_gl,S1_md,S1_nx,hR,S1_o,S1_t⟩:=h1
  generalize codeOf c=c at *
  simp at S1_n S1_gl S1_md S1_nx i1
  simp[S1_n]
  refine CallT.x (d_any _ R c 0 (by first | omega | (simp;omega)) (by first | exact hR | simpa using hR) hco (by omega)) rfl (fun r4 S4 h4=>?_)
  obtain⟨L,q,rfl,hk4,hlen4,hG4,hq⟩:=h4
  have S4_n:=hG4.n
  try simp[S1_n] at S4_n
  have S4_gl:=hG4.gl
  try simp[S1_gl] at S4_gl
  have S4_md:=hG4.md
  try simp[S1_md] at S4_md
  have S4_nx:=hG4.nx
  try simp[S1_n,S1_gl,S1_md,S4_n,S4_gl,S4_md] at S4_nx
  have S4_rd:=hG4.rd
  simp[S4_n,S4_gl]
  exact⟨L,⟨rfl,rfl⟩,hk4,hlen4⟩
set_option maxHeartbeats 16000000 in
theorem p_lawFnSchemaUsed (c:List UInt8) (hc:c.length≤140737488351232):PCall Tryz.prog gl 11 [codeD c] (dB true):=by
  refine PCall.by_ (md:=[]) Tryz.func11 rfl (by kernel_rfl) (n:=81) Tryz.ntmps11 (by simp) (by decide) rfl ?_
  simp
  refine BrT.dec (fun hbig=>?_) (fun hbig=>?_)
  case refine_1=>simp[hbig]
  simp[hbig]
  refine CallT.x (l_drawUsed _ c hc) rfl (fun r1 S1 h1=>?_)
  obtain⟨L,rfl,hK,hlen,S1_n,S1_gl,S1_md⟩:=h1
  simp at S1_n S1_gl S1_md
  have hsm:∀ d∈L,DefSm d:=fun d hd=>(hK d hd).1
  have cC:=fun (gl:Nat→Option D)=>p_spCheck (gl:=gl) L (by omega) hsm
  have cU:=fun (gl:Nat→Option D)=>p_spUsed (gl:=gl) L (by omega) hsm
  simp[S1_n]
  refine CallT.x (call_data (n:=40) (g_SchemaUsed (gl:=S1.gl) L (by omega) hsm) rfl (by rfl)) rfl (fun r2 S2 h2=>?_)
  obtain⟨rfl,hG2⟩:=h2
  have S2_n:=hG2.n
  have S2_gl:=hG2.gl
  have S2_md:=hG2.md
  simp[S1_n,S1_gl,S1_md] at S2_n S2_gl S2_md
  rw[skS_data]
  have hq:=fun hz=>used_query (L:=L) hz
  have hnm:=used_name (L:=L)
  have hln:=used_len (L:=L)
  have hlt:∀ (i:Nat) (a b:ByteArray),(usedN L)[i]?=some a→(usedN L)[i+1]?=some b→ltN a b=true:=fun i a b h1 h2=>by
    obtain⟨k1,rfl⟩:=List.getElem?_eq_some_iff.1 h1
    obtain⟨k2,rfl⟩:=List.getElem?_eq_some_iff.1 h2
    exact used_lt k2
  generalize usedN L=u at *
  simp[S2_n]
  repeat refine⟨DrawT.mk (by kernel_rfl),?_⟩
  refine CallT.p0 ((cU _)) (by first | rfl | (simp;done)|(simp[hbig,S1_n,S1_gl,S1_md,S2_n,S2_gl,S2_md];done)) (by first | rfl | (simp;done)|(simp;rfl)|(simp[hbig,S1_n,S1_gl,S1_md,S2_n,S2_gl,S2_md];done)) ?_
  simp[S2_n]
  repeat refine⟨DrawT.mk (by kernel_rfl),?_⟩
  refine CallT.p0 ((p_pgTexts u (by omega))) (by first | rfl | (simp;done)|(simp[hbig,S1_n,S1_gl,S1_md,S2_n,S2_gl,S2_md];done)) (by first | rfl | (simp;done)|(simp;rfl)|(simp[hbig,S1_n,S1_gl,S1_md,S2_n,S2_gl,S2_md];done)) ?_
  simp[S2_n]
  repeat refine⟨DrawT.mk (by kernel_rfl),?_⟩
  refine CallT.p0 ((cC _)) (by first | rfl | (simp;done)|(simp[hbig,S1_n,S1_gl,S1_md,S2_n,S2_gl,S2_md];done)) (by first | rfl | (simp;done)|(simp;rfl)|(simp[hbig,S1_n,S1_gl,S1_md,S2_n,S2_gl,S2_md];done)) ?_
  simp[S2_n]
  by_cases hz:checkB L=0
  case neg =>
    simp[S2_n,hz]
    repeat refine⟨DrawT.mk (by kernel_rfl),?_⟩
    refine CallT.p0 ((cU _)) (by first | rfl | (simp;done)|(simp[hbig,S1_n,S1_gl,S1_md,S2_n,S2_gl,S2_md];done)) (by first | rfl | (simp;done)|(simp;rfl)|(simp[hbig,S1_n,S1_gl,S1_md,S2_n,S2_gl,S2_md];done)) ?_
    simp[S2_n]
    repeat refine⟨DrawT.mk (by kernel_rfl),?_⟩
    refine CallT.p0 ((p_pgTexts u (by omega))) (by first | rfl | (simp;done)|(simp[hbig,S1_n,S1_gl,S1_md,S2_n,S2_gl,S2_md];done)) (by first | rfl | (simp;done)|(simp;rfl)|(simp[hbig,S1_n,S1_gl,S1_md,S2_n,S2_gl,S2_md];done)) ?_
    simp[S2_n]
  have hq:=hq hz
  simp[S2_n,hz]
  refine LoopT.round (fun E S=>∃ (i:Nat),(i≤u.length)∧E 3=some (.d (defsD L))∧E 4=some (.d (namesD u))∧E 5=some (.d (dI i))) (upTo 5 u.length) ⟨0,by simp⟩ ?_
  rintro E S hk ⟨i,hi,h3,h4,h5⟩
  have hn:S.n=81:=by first | (simpa using hk.n)|(have hh:=hk.n;simp[S2_n] at hh;exact hh)
  have hg:S.gl=gl:=by first | (simpa using hk.gl)|(have hh:=hk.gl;simp[S2_gl] at hh;exact hh)
  have hmd:S.md=[]:=by first | (simpa using hk.md)|(have hh:=hk.md;simp[S2_md] at hh;exact hh)
  simp[h4,h5,hn,hg]
  have w:=wrap64 (n:=(i:Int)+1) (by omega) (by omega)
  refine BrT.dec (fun c9=>?_) (fun c9=>?_)
  · have hi2:i<u.length:=by omega
    have hi2':(i:Int)<u.length:=by omega
    simp[hn,c9]
    have o5:=h5
    refine LoopT.round (fun E S=>∃ (j:Nat) (bb:Bool),(j≤L.length)∧(anyUp u[i] L j=bb)∧E 3=some (.d (defsD L))∧E 4=some (.d (namesD u))∧E 5=some (.d (dI i))∧E 6=some (.d (dB bb))∧E 7=some (.d (dI j))) (upTo 7 L.length) ⟨0,false,by simp[h3,h4,h5];rfl⟩ ?_
    rintro E S hk ⟨j,bb,hj,hbb,h3,h4,h5,h6,h7⟩
    have hn:S.n=81:=by first | (simpa using hk.n)|(have hh:=hk.n;simp[hn] at hh;exact hh)
    have hg:S.gl=gl:=by first | (simpa using hk.gl)|(have hh:=hk.gl;simp[hg] at hh;exact hh)
    have hmd:S.md=[]:=by first | (simpa using hk.md)|(have hh:=hk.md;simp[hmd] at hh;exact hh)
    simp[h3,h7,hn,hg]
    have w2:=wrap64 (n:=(j:Int)+1) (by omega) (by omega)
    refine BrT.dec (fun c8=>?_) (fun c8=>?_)
    · have hj2:j<L.length:=by omega
      have hj2':(j:Int)<L.length:=by omega
      obtain⟨e0,_,_⟩:=nm_kind hj2
      have e0':=(List.getElem?_eq_some_iff.1 e0).2
      have dlen:=defs_len L
      have dfit:j*4+4≤L.length*4:=by omega
      have ht:=anyUp_next (s:=u[i]) hj2
      rw[hbb] at ht
      cases bb with
      | true =>
        simp[h3,h4,h5,h6,h7,hn,c8,w2]
        refine⟨DrawT.mk (by kernel_rfl),?_⟩
        exact⟨⟨j+1,hj2,ht,by omega⟩,upTo_lt h7 (by simp) hj2⟩
      | false =>
        simp[c9,hi2',h3,h4,h5,h6,h7,hn,hg,c8,hj2',e0',dlen,w2]
        refine⟨DrawT.mk (by kernel_rfl),?_⟩
        exact⟨⟨j+1,hj2,ht.symm,by omega⟩,upTo_lt h7 (by simp) hj2⟩
    · have hjL:j=L.length:=by omega
      subst hjL
      have hany:=anyUp_all (hnm _ (List.getElem_mem hi2))
      rw[hbb] at hany
      subst hany
      simp[h5,h6,hn,c8]
      refine⟨DrawT.mk (by kernel_rfl),?_⟩
      refine BrT.dec (fun ci=>?_) (fun ci=>?_)
      · have hi3:i - 1+1=i:=by omega
        have w3:=wrap64 (n:=(i:Int) - 1) (by omega) (by omega)
        have hlt3:i - 1<u.length:=by omega
        have hl3:=hlt (i - 1) u[i - 1] u[i] (List.getElem?_eq_getElem hlt3) (by rw[hi3];exact List.getElem?_eq_getElem hi2)
        have hbl:Op.bytesLess u[i - 1].toList u[i].toList=true:=hl3
        have x1:(1:Int)≤i:=by omega
        have x2:(i:Int) - 1<u.length:=by omega
        simp[c9,hi2',w,h3,h4,h5,hn,hg,ci,w3,hbl,hlt3,x1,x2]
        exact⟨⟨i+1,hi2,by omega⟩,upTo_lt o5 (by simp) hi2⟩
      · simp[w,h3,h4,h5,hn,ci]
        exact⟨⟨i+1,hi2,by omega⟩,upTo_lt o5 (by simp) hi2⟩
  · simp[h4,hn,c9]
    repeat refine⟨DrawT.mk (by kernel_rfl),?_⟩
    refine CallT.p0 ((p_pgHas u queryS (by omega))) (by first | rfl | (simp;done)|(simp[hbig,S1_n,S1_gl,S1_md,S2_n,S2_gl,S2_md,h3,h4,h5,hn,hg,hmd,c9];done)) (by first | rfl | (simp;done)|(simp;rfl)|(simp[hbig,S1_n,S1_gl,S1_md,S2_n,S2_gl,S2_md,h3,h4,h5,hn,hg,hmd,c9];done)) ?_
    simp[h3,h4,hn,hg,memB_iff.2 hq,hln]
end Go.Proofs.YtlmpjblmmpddeaaGreat
