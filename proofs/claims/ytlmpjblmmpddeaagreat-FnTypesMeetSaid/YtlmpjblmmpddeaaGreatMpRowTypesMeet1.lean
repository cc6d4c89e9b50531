/- What variables hold becomes data for good. Over any program. -/
import Derived.Test.YtlmpjblmmpddeaaGreatMg4
set_option linter.unusedVariables false
set_option linter.unusedSimpArgs false
namespace Go.Sh
open Go.RowKit (Below)
def St.hi (S:St) (lo:Nat):St:={ S with B:=fun b=>if lo≤b then S.B b else none }
def St.low (S:St) (lo:Nat):St:={ S with B:=fun b=>if lo≤b then none else S.B b }
@[simp] theorem low_B (S:St) (lo:Nat) (b:Nat):(S.low lo).B b=if lo≤b then none else S.B b:=(rfl)
theorem hi_B {S:St}{lo b:Nat} (h:lo≤b):(S.hi lo).B b=S.B b:=if_pos h
theorem hi_some {S:St}{lo b:Nat}{cs:List SV} (h:(S.hi lo).B b=some cs):lo≤b∧S.B b=some cs:=by
  simp only[St.hi] at h
  split at h
  · rename_i k;exact⟨k,h⟩
  · cases h
theorem low_some {S:St}{lo b:Nat}{cs:List SV} (h:(S.low lo).B b=some cs):b<lo∧S.B b=some cs:=by
  simp only[St.low] at h
  split at h
  · cases h
  · rename_i k;exact⟨by omega,h⟩
theorem low_ne {S:St}{lo b:Nat} (h:(S.low lo).B b≠none):S.B b≠none:=by
  obtain⟨cs,hcs⟩:=Option.ne_none_iff_exists'.1 h
  rw[(low_some hcs).2];simp
theorem hi_less (S:St) (lo:Nat):Less (S.hi lo) S:=⟨fun _ _ h=>(hi_some h).2,fun _ _ h=>h,Nat.le_refl _⟩
noncomputable def Gh.frozen (G:Gh) (S:St) (lo:Nat):Gh :=
  { G with mark:=frzM (S.hi lo) G,tip:=fun i=>if S.T i=none then (G.tip i).map fun t=>(t.1,t.2.1,t.2.2.1+1,t.2.2.2) else G.tip i }
theorem frozen_tip {G:Gh}{S:St}{lo i B v k c:Nat} (h:(G.frozen S lo).tip i=some (B,v,k,c)):∃ k',G.tip i=some (B,v,k',c):=by
  simp only[Gh.frozen] at h
  split at h
  · cases hg:G.tip i with
    | none=>rw[hg] at h;cases h
    | some t =>
      rw[hg] at h
      obtain⟨t1,t2,t3,t4⟩:=t
      simp only[Option.map_some,Option.some.injEq,Prod.mk.injEq] at h
      obtain⟨rfl,rfl,_,rfl⟩:=h
      exact⟨t3,rfl⟩
  · exact⟨k,h⟩
theorem Rel.freeze {m0:Nat→Nat}{w0:World}{G:Gh}{E:Env}{S:St}{F:Nat→Prop}{a:Act}{w:World} (h:Rel m0 w0 G E S F a w) (lo:Nat):Rel m0 w0 (G.frozen S lo) E (S.low lo) F a w∧Fut G w (G.frozen S lo) w:=by
  have hh:=h.forget (hi_less S lo) rfl rfl
  have hsame:∀ X,(∀ b cs,lo≤b→S.B b=some cs→G.box b=some X→G.obj b≠none)→(∀ b ks vs,lo≤b→S.B b=some [.mc ks vs]→G.obj b≠some X)→frzM (S.hi lo) G X=G.mark X:=fun X k1 k2=>by
    rcases frzM_cases hh X with ⟨b,cs,h1,h2,h3,_⟩ | ⟨b,ks,vs,h1,h2,_⟩ | ⟨_,_,h3⟩
    · exact absurd h3 (k1 b cs (hi_some h1).1 (hi_some h1).2 h2)
    · exact absurd h2 (k2 b ks vs (hi_some h1).1 (hi_some h1).2)
    · exact h3
  have hmap:∀ (X:Nat) (us:Array Value) (T:TypeId) (fr:Nat×Nat),w.heap[X]?=some (.cells us T fr)→∀ b ks vs,lo≤b→S.B b=some [.mc ks vs]→G.obj b≠some X:=fun X us T fr hX b ks vs _ hb ho=>by
    obtain⟨_,_,_,k4⟩:=h.more.obj b _ X hb ho
    obtain⟨o,ho1,ho2⟩:=k4.other
    rw[hX] at ho1
    cases ho1
    exact ho2 _ _ _ rfl
  have htip:∀ i k sz,S.T i=some (k,sz)→∀ B v k' c,G.tip i=some (B,v,k',c)→frzM (S.hi lo) G B=G.mark B:=fun i k sz hi B v k' c hg=>by
    obtain⟨B',v',us,T,cap,fr,h1,h2,_⟩:=h.tip i k sz hi
    rw[hg] at h1
    cases h1
    exact hsame B (fun b cs _ hb hx _=>h.tbox i b B _ _ _ hg (by rw[hb];simp) hx) (hmap B us T fr h2)
  have f:Fut G w (G.frozen S lo) w:=by
    refine Fut.mk' (.refl w) (fun _ _ h=>h) (fun i B v k cap ht=>?_) (frzM_le hh) (fun _ _ _=>rfl) (fun _ _ h=>h)
    by_cases hi:S.T i=none
    · exact⟨B,v,k+1,cap,by simp[Gh.frozen,hi,ht],by omega,fun e=>by omega⟩
    · obtain⟨⟨k1,sz⟩,hks⟩:=Option.ne_none_iff_exists'.1 hi
      exact⟨B,v,k,cap,by simp[Gh.frozen,hi,ht],Nat.le_refl _,fun _=>⟨rfl,rfl,rfl,htip i k1 sz hks B v k cap ht⟩⟩
  refine⟨⟨fun k s hk=>(h.env k s hk).fut f,h.size,h.few,fun b cs hb ho=>?_,fun b b' B hb hb'=>h.inj b b' B (low_ne hb) (low_ne hb'),fun i k sz hi=>?_,fun i i' B v k c v' k' c' h1 h2=>?_,fun i B v k c h1=>?_,fun i b B v k c h1 hb=>?_,fun b hb=>?_,fun B hB=>(frzM_low hh (.inr hB)).trans (h.new B hB),fun B hB=>(frzM_low hh (.inl hB)).trans (h.low B hB),h.below,h.defers,fun g x hg=>(h.glob g x hg).keep (frzM_le hh) (fun _ _ _=>rfl) (fun _ _ _ _ h=>h),?_⟩,f⟩
  · obtain⟨hlt,hb⟩:=low_some hb
    obtain⟨B,us,T,g1,g2,g3,g4,g5,g6,g7⟩:=h.box b cs hb ho
    refine⟨B,us,T,g1,g2,g3,(hsame B (fun b' cs' k1 hb' hx _=>?_) (hmap B us T.1 T.2 g2)).trans g4,g5,g6,fun j hj hj'=>⟨(g7 j hj hj').1,(g7 j hj hj').2.fut f⟩⟩
    have:=h.inj b' b B (by rw[hb'];simp) (by rw[hb];simp) hx g1
    omega
  · have hi:S.T i=some (k,sz):=hi
    obtain⟨B,v,us,T,cap,fr,h1,h2,h3,h4,h5,h6⟩:=h.tip i k sz hi
    have hne:¬ S.T i=none:=by rw[hi];simp
    exact⟨B,v,us,T,cap,fr,by simp[Gh.frozen,hne,h1],h2,h3,h4,(htip i k sz hi B v k cap h1).trans h5,h6⟩
  · obtain⟨_,h1⟩:=frozen_tip h1
    obtain⟨_,h2⟩:=frozen_tip h2
    exact h.tinj i i' B _ _ _ _ _ _ h1 h2
  · obtain⟨_,h1⟩:=frozen_tip h1
    exact h.tlt i B _ _ _ h1
  · obtain⟨_,h1⟩:=frozen_tip h1
    exact h.tbox i b B _ _ _ h1 (low_ne hb)
  · obtain⟨h1,h2⟩:=h.fresh b hb
    exact⟨h1,by simp[Gh.frozen,h2]⟩
  · refine⟨fun b cs B hb ho=>?_,fun b b' B hb hb'=>h.more.oinj b b' B (low_ne hb) (low_ne hb'),h.more.ofresh,fun hg=>frzM_ok hh hg⟩
    obtain⟨hlt,hb⟩:=low_some hb
    obtain⟨k1,k2,k3,k4⟩:=h.more.obj b cs B hb ho
    obtain⟨o,ho1,ho2⟩:=k4.other
    refine⟨k1,(hsame B (fun b' cs' _ hb' hx hno=>?_) (fun b' ks vs l1 hb' ho'=>?_)).trans k2,k3,k4.fut f rfl⟩
    · obtain⟨B2,us,T,g1,g2,_⟩:=h.box b' cs' hb' hno
      rw[hx] at g1
      cases g1
      rw[ho1] at g2
      cases g2
      exact ho2 _ _ _ rfl
    · have:=h.more.oinj b' b B (by rw[hb'];simp) (by rw[hb];simp) ho' ho
      omega
section
variable {P:Program}{S S':St}{f:FuncId}{ss:List SV}{r:SV}
theorem LCall.frozen (h:LCall P f ss S r S') (lo:Nat) {k:Nat}{x:D} (hx:frz (S'.hi lo).B k r=some x):LCall P f ss S (.d x) (S'.low lo):=by
  obtain⟨h1,h2,h3⟩:=h
  refine⟨h1,⟨h2.n,h2.md,h2.gl,h2.nx⟩,fun m0 w0 G E F a w vals hr hF hl hv=>(h3 m0 w0 G E F a w vals hr hF hl hv).mono ?_⟩
  rintro e w' ⟨u,G',rfl,hu,hrel,hfut⟩
  obtain⟨k1,k2⟩:=hrel.freeze lo
  exact⟨u,_,rfl, .d (frz_ok (hrel.forget (hi_less S' lo) rfl rfl) hx hu),k1,hfut.trans k2⟩
theorem PV.cut {m:Nat→Nat}{w:World}{ds M:List D}{n:Nat}{v:Value} (h:PV m w (.ps (ds++M) n) v):PV m w (.ps ds n) v:=by
  generalize e:ds++M=cs at h
  cases h with
  | nil=>rw[(List.append_eq_nil_iff.1 e).1];exact .nil
  | pz h=>rw[(List.append_eq_nil_iff.1 e).1];exact .pz h
  | ps us hn hc hk hv =>
    subst e
    refine .ps us hn (fun j hj=>hc j (by simp;omega)) (fun j hj=>?_) (fun j hj=>?_)
    · have:=hk j (by simp;omega)
      rwa [List.getElem_append_left hj] at this
    · have:=hv j (by simp;omega)
      rwa [List.getElem_append_left hj] at this
theorem LCall.cutR {ds M:List D}{n:Nat} (h:LCall P f ss S (.d (.ps (ds++M) n)) S'):LCall P f ss S (.d (.ps ds n)) S':=by
  obtain⟨h1,h2,h3⟩:=h
  refine⟨h1,h2,fun m0 w0 G E F a w vals hr hF hl hv=>(h3 m0 w0 G E F a w vals hr hF hl hv).mono ?_⟩
  rintro e w' ⟨u,G',rfl,hu,hrel,hfut⟩
  cases hu with
  | d hp=>exact⟨u,G',rfl, .d hp.cut,hrel,hfut⟩
end
end Go.Sh
