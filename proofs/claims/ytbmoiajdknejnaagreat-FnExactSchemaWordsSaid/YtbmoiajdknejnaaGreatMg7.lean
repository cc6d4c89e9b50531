/- Ik and what follows it, one behind another. -/
import Derived.Test.YtbmoiajdknejnaaGreatMg6
import Derived.Test.YtbmoiajdknejnaaGreatMg5
import Derived.Test.YtbmoiajdknejnaaGreatMg4
set_option linter.unusedVariables false
set_option linter.unusedSimpArgs false
set_option maxRecDepth 100000
namespace Go.Proofs.YtbmoiajdknejnaaGreat
open Go.Sh
variable {gl:Nat→Option D}
theorem else_tw {a:Arg} (h:argB a=true) (hh:a.has=true):TW a.els:=by
  unfold argB elseB at h
  rw[hh,if_pos rfl,Bool.and_eq_true] at h
  exact tw_of _ _ _ h.2
set_option maxHeartbeats 4000000 in
theorem p_l2Else (l:List Def) (hL:l.length≤1000000) (hd:∀ d∈l,defB d=true∧DefOk d):PCall Tryz.prog gl 74 [defsD l] (dB (l.all (defFits l))):=by
  obtain⟨z,hz⟩:∃ z,l.all (defFits l)=z:=⟨_,rfl⟩
  rw[hz]
  refine PCall.by_ (md:=[]) Tryz.func74 rfl (by kernel_rfl) (n:=58) Tryz.ntmps74 (by simp) (by decide) rfl ?_
  simp
  refine LoopT.round (fun E S=>∃ (i:Nat),(i≤l.length)∧E 0=some (.d (defsD l))∧E 3=some (.d (dI i))∧(allUp (defFits l) l i)) (upTo 3 l.length) ⟨0,by simp;exact allUp_zero _ _⟩ ?_
  rintro E S hk ⟨i,hi,h0,h3,hp⟩
  have hn:S.n=58:=by first | (simpa using hk.n)|(have hh:=hk.n;simp at hh;exact hh)
  have hg:S.gl=gl:=by first | (simpa using hk.gl)|(have hh:=hk.gl;simp at hh;exact hh)
  have hmd:S.md=[]:=by first | (simpa using hk.md)|(have hh:=hk.md;simp at hh;exact hh)
  simp[h0,h3,hn,hg,hmd]
  have w:=wrap64 (n:=(i:Int)+1) (by omega) (by omega)
  refine BrT.dec (fun c=>?_) (fun c=>?_)
  · have hi2:i<l.length:=by omega
    have hlen:=defs_len l
    have hfit:i*4+4≤l.length*4:=by omega
    have hat:=defs_at l hi2
    have bad:defFits l l[i]=false→z=false:=fun h=>by rw[← hz,all_bad hi2 h]
    have good:=all_take (p:=defFits l) hi2 hp
    obtain⟨hdb,hdo⟩:=hd _ (List.getElem_mem hi2)
    have hfo:=fld_of hdb
    generalize l[i]=d at hat bad good hdb hdo hfo
    have hdf:defFits l d=d.flds.all (fldFits l):=rfl
    obtain⟨dn,kind,fs,words⟩:=d
    obtain⟨hfl,hfk⟩:=hdo.2.1
    simp only at hdf hfo hfl hfk
    simp only[Def.cells] at hat
    have hat_2:=row_get hat 2 (by decide) rfl
    have hat_2'':=(List.getElem?_eq_some_iff.1 hat_2).2
    have hat_2':i*4+2<_:=Nat.lt_of_lt_of_le (by omega) hfit
    simp[h0,h3,hn,hg,hmd,c,hat_2,hat_2',hat_2'',hi2,w,hlen,hfit]
    have o3:=h3
    refine LoopT.round (fun E S=>∃ (k:Nat),(k≤fs.length)∧E 0=some (.d (defsD l))∧E 3=some (.d (dI i))∧E 4=some (.d (dI k))∧(allUp (fldFits l) fs k)) (upTo 4 fs.length) ⟨0,by simp[h0,h3,hn,hg,hmd,c,hat_2,hat_2',hat_2'',hi2,w,hlen,hfit];exact allUp_zero _ _⟩ ?_
    rintro E S hk ⟨k,hk2,h0,h3,h4,hp2⟩
    have hn:S.n=58:=by first | (simpa using hk.n)|(have hh:=hk.n;simp[h0,h3,hn,hg,hmd,c,hat_2,hat_2',hat_2'',hi2,w,hlen,hfit] at hh;exact hh)
    have hg:S.gl=gl:=by first | (simpa using hk.gl)|(have hh:=hk.gl;simp[h0,h3,hn,hg,hmd,c,hat_2,hat_2',hat_2'',hi2,w,hlen,hfit] at hh;exact hh)
    have hmd:S.md=[]:=by first | (simpa using hk.md)|(have hh:=hk.md;simp[h0,h3,hn,hg,hmd,c,hat_2,hat_2',hat_2'',hi2,w,hlen,hfit] at hh;exact hh)
    simp[h0,h3,hn,hg,hmd,c,hat_2,hat_2',hat_2'',hi2,w,hlen,hfit,h0,h3,h4,hn,hg,hmd]
    have w2:=wrap64 (n:=(k:Int)+1) (by omega) (by omega)
    refine BrT.dec (fun c2=>?_) (fun c2=>?_)
    · have hk3:k<fs.length:=by omega
      have flen:=flds_len fs
      have ffit:k*5+5≤fs.length*5:=by omega
      have fat:=flds_at fs hk3
      have bad2:fldFits l fs[k]=false→z=false:=fun h=>bad (by rw[hdf,all_bad hk3 h])
      have good2:=all_take (p:=fldFits l) hk3 hp2
      have hfo:=hfo _ (List.getElem_mem hk3)
      have hfk:=hfk _ (List.getElem_mem hk3)
      generalize fs[k]=f at fat bad2 good2 hfo hfk
      have hff:fldFits l f=f.args.all (argFits l):=rfl
      obtain⟨fn,args,fty⟩:=f
      cases fty with
      | mk ft flt fb =>
      obtain⟨hal,hak⟩:=hfk.2.1
      simp only at hff hfo hal hak
      simp only[Fld.cells,Typ.cells,List.cons_append,List.nil_append] at fat
      have fat_1:=row_get fat 1 (by decide) rfl
      have fat_1'':=(List.getElem?_eq_some_iff.1 fat_1).2
      have fat_1':k*5+1<_:=Nat.lt_of_lt_of_le (by omega) ffit
      simp[h0,h3,hn,hg,hmd,c,hat_2,hat_2',hat_2'',hi2,w,hlen,hfit,h0,h3,h4,hn,hg,hmd,c2,fat_1,fat_1',fat_1'',hk3,w2,flen,ffit]
      have o4:=h4
      refine LoopT.round (fun E S=>∃ (q:Nat),(q≤args.length)∧E 0=some (.d (defsD l))∧E 3=some (.d (dI i))∧E 4=some (.d (dI k))∧E 5=some (.d (argsD args))∧E 6=some (.d (dI q))∧(allUp (argFits l) args q)) (upTo 6 args.length) ⟨0,by simp[h0,h3,hn,hg,hmd,c,hat_2,hat_2',hat_2'',hi2,w,hlen,hfit,h0,h3,h4,hn,hg,hmd,c2,fat_1,fat_1',fat_1'',hk3,w2,flen,ffit];exact allUp_zero _ _⟩ ?_
      rintro E S hk ⟨q,hq2,h0,h3,h4,h5,h6,hp3⟩
      have hn:S.n=58:=by first | (simpa using hk.n)|(have hh:=hk.n;simp[h0,h3,hn,hg,hmd,c,hat_2,hat_2',hat_2'',hi2,w,hlen,hfit,h0,h3,h4,hn,hg,hmd,c2,fat_1,fat_1',fat_1'',hk3,w2,flen,ffit] at hh;exact hh)
      have hg:S.gl=gl:=by first | (simpa using hk.gl)|(have hh:=hk.gl;simp[h0,h3,hn,hg,hmd,c,hat_2,hat_2',hat_2'',hi2,w,hlen,hfit,h0,h3,h4,hn,hg,hmd,c2,fat_1,fat_1',fat_1'',hk3,w2,flen,ffit] at hh;exact hh)
      have hmd:S.md=[]:=by first | (simpa using hk.md)|(have hh:=hk.md;simp[h0,h3,hn,hg,hmd,c,hat_2,hat_2',hat_2'',hi2,w,hlen,hfit,h0,h3,h4,hn,hg,hmd,c2,fat_1,fat_1',fat_1'',hk3,w2,flen,ffit] at hh;exact hh)
      simp[h0,h3,hn,hg,hmd,c,hat_2,hat_2',hat_2'',hi2,w,hlen,hfit,h0,h3,h4,hn,hg,hmd,c2,fat_1,fat_1',fat_1'',hk3,w2,flen,ffit,h0,h3,h4,h5,h6,hn,hg,hmd]
      have w3:=wrap64 (n:=(q:Int)+1) (by omega) (by omega)
      refine BrT.dec (fun c3=>?_) (fun c3=>?_)
      · have hq3:q<args.length:=by omega
        have alen:=args_len args
        have afit:q*10+10≤args.length*10:=by omega
        have aat:=args_at args hq3
        have bad3:argFits l args[q]=false→z=false:=fun h=>bad2 (by rw[hff,all_bad hq3 h])
        have good3:=all_take (p:=argFits l) hq3 hp3
        have haB:=hfo.2 _ (List.getElem_mem hq3)
        have haO:=hak _ (List.getElem_mem hq3)
        generalize args[q]=a at aat bad3 good3 haB haO
        have hF:=fun hh=>p_l2Fits (gl:=gl) l hL hd a.els a.ty 3 (typ_of haB) haO.2.2 (else_tw haB hh)
        have hafe:argFits l a = !(a.has && !fitsB l a.ty a.els):=rfl
        obtain⟨an,aty,ah,ae⟩:=a
        cases aty with
        | mk at_ alt ab =>
        cases ae with
        | mk ek en et el ens =>
        simp only at hF hafe
        simp only[Arg.cells,Typ.cells,Val.cells,List.cons_append,List.nil_append] at aat
        have aat_1_3:=row_sub aat 1 3 (by decide)
        have aat_1_3':q*10+1+3≤_:=Nat.le_trans (by omega) afit
        have aat_4:=row_get aat 4 (by decide) rfl
        have aat_4'':=(List.getElem?_eq_some_iff.1 aat_4).2
        have aat_4':q*10+4<_:=Nat.lt_of_lt_of_le (by omega) afit
        have aat_5_5:=row_sub aat 5 5 (by decide)
        have aat_5_5':q*10+5+5≤_:=Nat.le_trans (by omega) afit
        simp[h0,h3,hn,hg,hmd,c,hat_2,hat_2',hat_2'',hi2,w,hlen,hfit,h0,h3,h4,hn,hg,hmd,c2,fat_1,fat_1',fat_1'',hk3,w2,flen,ffit,h0,h3,h4,h5,h6,hn,hg,hmd,c3,aat_1_3,aat_1_3',aat_4,aat_4',aat_4'',aat_5_5,aat_5_5',hq3,w3,alen,afit]
        refine⟨DrawT.mk (by kernel_rfl),?_⟩
        refine BrT.mk (fun ca=>?_) (fun ca=>?_)
        · simp[h0,h3,hn,hg,hmd,c,hat_2,hat_2',hat_2'',hi2,w,hlen,hfit,h0,h3,h4,hn,hg,hmd,c2,fat_1,fat_1',fat_1'',hk3,w2,flen,ffit,h0,h3,h4,h5,h6,hn,hg,hmd,c3,aat_1_3,aat_1_3',aat_4,aat_4',aat_4'',aat_5_5,aat_5_5',hq3,w3,alen,afit,ca]
          repeat refine⟨DrawT.mk (by kernel_rfl),?_⟩
          refine CallT.p0 (hF ca) (by first | rfl | (simp;done)|(simp[h0,h3,hn,hg,hmd,c,hat_2,hat_2',hat_2'',hi2,w,hlen,hfit,h0,h3,h4,hn,hg,hmd,c2,fat_1,fat_1',fat_1'',hk3,w2,flen,ffit,h0,h3,h4,h5,h6,hn,hg,hmd,c3,aat_1_3,aat_1_3',aat_4,aat_4',aat_4'',aat_5_5,aat_5_5',hq3,w3,alen,afit,ca];done)) (by first | rfl | (simp;done)|(simp;rfl)|(simp[h0,h3,hn,hg,hmd,c,hat_2,hat_2',hat_2'',hi2,w,hlen,hfit,h0,h3,h4,hn,hg,hmd,c2,fat_1,fat_1',fat_1'',hk3,w2,flen,ffit,h0,h3,h4,h5,h6,hn,hg,hmd,c3,aat_1_3,aat_1_3',aat_4,aat_4',aat_4'',aat_5_5,aat_5_5',hq3,w3,alen,afit,ca];done)) ?_
          simp[h0,h3,hn,hg,hmd,c,hat_2,hat_2',hat_2'',hi2,w,hlen,hfit,h0,h3,h4,hn,hg,hmd,c2,fat_1,fat_1',fat_1'',hk3,w2,flen,ffit,h0,h3,h4,h5,h6,hn,hg,hmd,c3,aat_1_3,aat_1_3',aat_4,aat_4',aat_4'',aat_5_5,aat_5_5',hq3,w3,alen,afit,ca]
          refine BrT.mk (fun cf=>?_) (fun cf=>?_)
          case refine_2=>(have hq:=bad3 (by rw[hafe,ca,cf];rfl);simp[h0,h3,hn,hg,hmd,c,hat_2,hat_2',hat_2'',hi2,w,hlen,hfit,h0,h3,h4,hn,hg,hmd,c2,fat_1,fat_1',fat_1'',hk3,w2,flen,ffit,h0,h3,h4,h5,h6,hn,hg,hmd,c3,aat_1_3,aat_1_3',aat_4,aat_4',aat_4'',aat_5_5,aat_5_5',hq3,w3,alen,afit,ca,cf,hq])
          simp[h0,h3,hn,hg,hmd,c,hat_2,hat_2',hat_2'',hi2,w,hlen,hfit,h0,h3,h4,hn,hg,hmd,c2,fat_1,fat_1',fat_1'',hk3,w2,flen,ffit,h0,h3,h4,h5,h6,hn,hg,hmd,c3,aat_1_3,aat_1_3',aat_4,aat_4',aat_4'',aat_5_5,aat_5_5',hq3,w3,alen,afit,ca,cf]
          exact⟨⟨q+1,hq3,by omega,good3 (by rw[hafe,ca,cf];rfl)⟩,upTo_lt h6 (by simp) hq3⟩
        · simp[h0,h3,hn,hg,hmd,c,hat_2,hat_2',hat_2'',hi2,w,hlen,hfit,h0,h3,h4,hn,hg,hmd,c2,fat_1,fat_1',fat_1'',hk3,w2,flen,ffit,h0,h3,h4,h5,h6,hn,hg,hmd,c3,aat_1_3,aat_1_3',aat_4,aat_4',aat_4'',aat_5_5,aat_5_5',hq3,w3,alen,afit,ca]
          exact⟨⟨q+1,hq3,by omega,good3 (by rw[hafe,ca];rfl)⟩,upTo_lt h6 (by simp) hq3⟩
      · have hq4:q=args.length:=by omega
        subst hq4
        have g:=good2 (by rw[hff];exact allUp_all hp3)
        simp[h0,h3,hn,hg,hmd,c,hat_2,hat_2',hat_2'',hi2,w,hlen,hfit,h0,h3,h4,hn,hg,hmd,c2,fat_1,fat_1',fat_1'',hk3,w2,flen,ffit,h0,h3,h4,h5,h6,hn,hg,hmd,c3]
        exact⟨⟨k+1,hk3,by omega,g⟩,upTo_lt o4 (by simp) hk3⟩
    · have hk4:k=fs.length:=by omega
      subst hk4
      have g:=good (by rw[hdf];exact allUp_all hp2)
      simp[h0,h3,hn,hg,hmd,c,hat_2,hat_2',hat_2'',hi2,w,hlen,hfit,h0,h3,h4,hn,hg,hmd,c2]
      exact⟨⟨i+1,hi2,by omega,g⟩,upTo_lt o3 (by simp) hi2⟩
  · have hi3:i=l.length:=by omega
    subst hi3
    rw[allUp_all hp] at hz
    simp[h0,h3,hn,hg,hmd,c, ← hz]
def cz (b:Bool):Int:=if b=true then 4 else 0
def wordsOf (d:Def):List ByteArray:=if d.kind=2 then [] else d.words
def missW (l:List Def) (w:ByteArray):Bool:=decide (kindZ l w<0)
def badW (l:List Def) (w:ByteArray):Bool:=!decide (kindZ l w=1)
def missA (l:List Def) (a:Arg):Bool:=decide (kindZ l (baseT a.ty)<0)
def badA (l:List Def) (a:Arg):Bool:=!goesB l (baseT a.ty) true
def missF (l:List Def) (f:Fld):Bool:=decide (kindZ l (baseT f.ty)<0) || f.args.any (missA l)
def badF (l:List Def) (inn:Bool) (f:Fld):Bool:=!goesB l (baseT f.ty) inn || f.args.any (badA l)
def missD (l:List Def) (d:Def):Bool:=(wordsOf d).any (missW l) || d.flds.any (missF l)
def badD (l:List Def) (d:Def):Bool:=(wordsOf d).any (badW l) || d.flds.any (badF l (decide (d.kind=3)))
def namesZ (l:List Def):Int:=if l.any (missD l)=true then 3 else cz (l.any (badD l))
def anyTo {α:Type} (p:α→Bool) (l:List α) (i:Nat):Bool:=(l.take i).any p
@[simp] theorem anyTo_zero {α:Type} (p:α→Bool) (l:List α):anyTo p l 0=false:=rfl
theorem anyTo_next {α:Type}{p:α→Bool}{l:List α}{i:Nat} (hi:i<l.length):anyTo p l (i+1)=(anyTo p l i || p l[i]):=any_take hi
theorem anyTo_all {α:Type} (p:α→Bool) (l:List α):anyTo p l l.length=l.any p:=by unfold anyTo;rw[List.take_length]
theorem words_len {d:Def} (h:defB d=true):d.words.length≤8:=by
  unfold defB at h
  rw[Bool.and_eq_true] at h
  have h:=h.2
  split at h
  · rw[Bool.and_eq_true] at h
    have:=of_decide_eq_true h.1
    omega
  · split at h
    · simp only[Bool.and_eq_true,decide_eq_true_eq] at h
      omega
    · cases h
set_option maxHeartbeats 8000000 in
theorem p_l2Names (l:List Def) (hL:l.length≤1000000) (hd:∀ d∈l,defB d=true∧DefOk d):PCall Tryz.prog gl 71 [defsD l] (dI (namesZ l)):=by
  obtain⟨z,hz⟩:∃ z,namesZ l=z:=⟨_,rfl⟩
  rw[hz]
  have miss:l.any (missD l)=true→z=3:=fun h=>by rw[← hz,namesZ,if_pos h]
  have fine:l.any (missD l)=false→z=cz (l.any (badD l)):=fun h=>by rw[← hz,namesZ,if_neg (by rw[h];decide)]
  have hl0:l.length≤4611686018427387904:=by omega
  refine PCall.by_ (md:=[]) Tryz.func71 rfl (by kernel_rfl) (n:=109) Tryz.ntmps71 (by simp) (by decide) rfl ?_
  simp
  refine LoopT.round (fun E S=>∃ (i:Nat),(i≤l.length)∧E 0=some (.d (defsD l))∧E 3=some (.d (dI (cz (anyTo (badD l) l i))))∧E 4=some (.d (dI i))∧(noUp (missD l) l i)) (upTo 4 l.length) ⟨0,by simp;exact⟨rfl,noUp_zero _ _⟩⟩ ?_
  rintro E S hk ⟨i,hi,h0,h3,h4,hp⟩
  have hn:S.n=109:=by first | (simpa using hk.n)|(have hh:=hk.n;simp at hh;exact hh)
  have hg:S.gl=gl:=by first | (simpa using hk.gl)|(have hh:=hk.gl;simp at hh;exact hh)
  have hmd:S.md=[]:=by first | (simpa using hk.md)|(have hh:=hk.md;simp at hh;exact hh)
  simp[h0,h3,h4,hn,hg,hmd]
  have w:=wrap64 (n:=(i:Int)+1) (by omega) (by omega)
  refine BrT.dec (fun c=>?_) (fun c=>?_)
  · have hi2:i<l.length:=by omega
    have hlen:=defs_len l
    have hfit:i*4+4≤l.length*4:=by omega
    have hat:=defs_at l hi2
    have bad:missD l l[i]=true→z=3:=fun h=>miss (any_at hi2 h)
    have good:=noUp_next hi2 hp
    have code:=anyTo_next (p:=badD l) hi2
    obtain⟨hdb,hdo⟩:=hd _ (List.getElem_mem hi2)
    have hfo:=fld_of hdb
    generalize l[i]=d at hat bad good code hdb hdo hfo
    generalize anyTo (badD l) l i=c0 at code h3
    have hmis:missD l d=((wordsOf d).any (missW l) || d.flds.any (missF l)):=rfl
    have hbdd:badD l d=((wordsOf d).any (badW l) || d.flds.any (badF l (decide (d.kind=3)))):=rfl
    have hww:wordsOf d=if d.kind=2 then [] else d.words:=rfl
    obtain⟨dn,kind,fs,words⟩:=d
    obtain⟨hfl,hfk⟩:=hdo.2.1
    have hwl:=words_len hdb
    simp only at hmis hbdd hww hfo hfl hfk hwl
    generalize wordsOf _=ws at hmis hbdd hww
    simp only[Def.cells] at hat
    have hat_1:=row_get hat 1 (by decide) rfl
    have hat_1'':=(List.getElem?_eq_some_iff.1 hat_1).2
    have hat_1':i*4+1<_:=Nat.lt_of_lt_of_le (by omega) hfit
    have hat_2:=row_get hat 2 (by decide) rfl
    have hat_2'':=(List.getElem?_eq_some_iff.1 hat_2).2
    have hat_2':i*4+2<_:=Nat.lt_of_lt_of_le (by omega) hfit
    have hat_3:=row_get hat 3 (by decide) rfl
    have hat_3'':=(List.getElem?_eq_some_iff.1 hat_3).2
    have hat_3':i*4+3<_:=Nat.lt_of_lt_of_le (by omega) hfit
    by_cases hw0:words=[]
    case' pos =>
      subst hw0
      simp[h0,h3,h4,hn,hg,hmd,c,hat_1,hat_1',hat_1'',hat_2,hat_2',hat_2'',hat_3,hat_3',hat_3'',hi2,w,hlen,hfit]
    case' neg =>
      have hw1:0<words.length:=List.length_pos_iff.2 hw0
      simp[h0,h3,h4,hn,hg,hmd,c,hat_1,hat_1',hat_1'',hat_2,hat_2',hat_2'',hat_3,hat_3',hat_3'',hi2,w,hlen,hfit,hw0,hw1]
      refine⟨by unfold appBound;omega,?_⟩
    all_goals
      refine BrT.dec (fun k2=>?_) (fun k2=>?_)
    all_goals
      simp[h0,h3,h4,hn,hg,hmd,c,hat_1,hat_1',hat_1'',hat_2,hat_2',hat_2'',hat_3,hat_3',hat_3'',hi2,w,hlen,hfit]
      refine LoopT.asD 5 (namesD ws) (by rw[hww];first | (rw[if_pos k2];rfl)|(rw[if_neg k2];rfl)) ?_
      have o4:=h4
      have wl:ws.length≤4611686018427387903:=by
        rw[hww];split
        · simp
        · first | omega | simp
      refine LoopT.round (fun E S=>∃ (k:Nat),(k≤ws.length)∧E 0=some (.d (defsD l))∧E 3=some (.d (dI (cz (c0 || anyTo (badW l) ws k))))∧E 4=some (.d (dI i))∧E 5=some (.d (namesD ws))∧E 6=some (.d (dI k))∧(noUp (missW l) ws k)) (upTo 6 ws.length) ⟨0,by simp[h0,h3,h4,hn,hg,hmd,c,hat_1,hat_1',hat_1'',hat_2,hat_2',hat_2'',hat_3,hat_3',hat_3'',hi2,w,hlen,hfit];exact noUp_zero _ _⟩ ?_
      rintro E S hk ⟨k,hkl,h0,h3,h4,h5,h6,hp2⟩
      have hn:S.n=109:=by first | (simpa using hk.n)|(have hh:=hk.n;simp[h0,h3,h4,hn,hg,hmd,c,hat_1,hat_1',hat_1'',hat_2,hat_2',hat_2'',hat_3,hat_3',hat_3'',hi2,w,hlen,hfit] at hh;exact hh)
      have hg:S.gl=gl:=by first | (simpa using hk.gl)|(have hh:=hk.gl;simp[h0,h3,h4,hn,hg,hmd,c,hat_1,hat_1',hat_1'',hat_2,hat_2',hat_2'',hat_3,hat_3',hat_3'',hi2,w,hlen,hfit] at hh;exact hh)
      have hmd:S.md=[]:=by first | (simpa using hk.md)|(have hh:=hk.md;simp[h0,h3,h4,hn,hg,hmd,c,hat_1,hat_1',hat_1'',hat_2,hat_2',hat_2'',hat_3,hat_3',hat_3'',hi2,w,hlen,hfit] at hh;exact hh)
      simp[h0,h3,h4,hn,hg,hmd,c,hat_1,hat_1',hat_1'',hat_2,hat_2',hat_2'',hat_3,hat_3',hat_3'',hi2,w,hlen,hfit,h0,h3,h4,h5,h6,hn,hg,hmd]
      have w2:=wrap64 (n:=(k:Int)+1) (by omega) (by omega)
      refine BrT.dec (fun c2=>?_) (fun c2=>?_)
      · have hk3:k<ws.length:=by omega
        have mis:=any_at (p:=missW l) hk3
        have gd:=noUp_next hk3 hp2
        have cd:=anyTo_next (p:=badW l) hk3
        have hK:=p_l2Kind (gl:=gl) l ws[k] hl0
        have hmw:missW l ws[k]=decide (kindZ l ws[k]<0):=rfl
        have hbw:badW l ws[k] = !decide (kindZ l ws[k]=1):=rfl
        generalize kindZ l ws[k]=zk at hK hmw hbw
        simp[h0,h3,h4,hn,hg,hmd,c,hat_1,hat_1',hat_1'',hat_2,hat_2',hat_2'',hat_3,hat_3',hat_3'',hi2,w,hlen,hfit,h0,h3,h4,h5,h6,hn,hg,hmd,c2,hk3,w2]
        repeat refine⟨DrawT.mk (by kernel_rfl),?_⟩
        refine CallT.p0 (hK) (by first | rfl | (simp;done)|(simp[h0,h3,h4,hn,hg,hmd,c,hat_1,hat_1',hat_1'',hat_2,hat_2',hat_2'',hat_3,hat_3',hat_3'',hi2,w,hlen,hfit,h0,h3,h4,h5,h6,hn,hg,hmd,c2,hk3,w2];done)) (by first | rfl | (simp;done)|(simp;rfl)|(simp[h0,h3,h4,hn,hg,hmd,c,hat_1,hat_1',hat_1'',hat_2,hat_2',hat_2'',hat_3,hat_3',hat_3'',hi2,w,hlen,hfit,h0,h3,h4,h5,h6,hn,hg,hmd,c2,hk3,w2];done)) ?_
        simp[h0,h3,h4,hn,hg,hmd,c,hat_1,hat_1',hat_1'',hat_2,hat_2',hat_2'',hat_3,hat_3',hat_3'',hi2,w,hlen,hfit,h0,h3,h4,h5,h6,hn,hg,hmd,c2,hk3,w2]
        refine BrT.dec (fun m1=>?_) (fun m1=>?_)
        case refine_1=>(have hq:=bad (by rw[hmis,mis (by rw[hmw];exact decide_eq_true m1)];rfl);simp[h0,h3,h4,hn,hg,hmd,c,hat_1,hat_1',hat_1'',hat_2,hat_2',hat_2'',hat_3,hat_3',hat_3'',hi2,w,hlen,hfit,h0,h3,h4,h5,h6,hn,hg,hmd,c2,hk3,w2,m1,hq])
        have gd:=gd (by rw[hmw];exact decide_eq_false m1)
        simp[h0,h3,h4,hn,hg,hmd,c,hat_1,hat_1',hat_1'',hat_2,hat_2',hat_2'',hat_3,hat_3',hat_3'',hi2,w,hlen,hfit,h0,h3,h4,h5,h6,hn,hg,hmd,c2,hk3,w2,m1]
        repeat refine⟨DrawT.mk (by kernel_rfl),?_⟩
        refine CallT.p0 (hK) (by first | rfl | (simp;done)|(simp[h0,h3,h4,hn,hg,hmd,c,hat_1,hat_1',hat_1'',hat_2,hat_2',hat_2'',hat_3,hat_3',hat_3'',hi2,w,hlen,hfit,h0,h3,h4,h5,h6,hn,hg,hmd,c2,hk3,w2,m1];done)) (by first | rfl | (simp;done)|(simp;rfl)|(simp[h0,h3,h4,hn,hg,hmd,c,hat_1,hat_1',hat_1'',hat_2,hat_2',hat_2'',hat_3,hat_3',hat_3'',hi2,w,hlen,hfit,h0,h3,h4,h5,h6,hn,hg,hmd,c2,hk3,w2,m1];done)) ?_
        simp[h0,h3,h4,hn,hg,hmd,c,hat_1,hat_1',hat_1'',hat_2,hat_2',hat_2'',hat_3,hat_3',hat_3'',hi2,w,hlen,hfit,h0,h3,h4,h5,h6,hn,hg,hmd,c2,hk3,w2,m1]
        refine BrT.dec (fun m2=>?_) (fun m2=>?_)
        · rw[hbw,decide_eq_true m2,Bool.not_true,Bool.or_false] at cd
          rw[← cd] at h3
          simp[h0,h3,h4,hn,hg,hmd,c,hat_1,hat_1',hat_1'',hat_2,hat_2',hat_2'',hat_3,hat_3',hat_3'',hi2,w,hlen,hfit,h0,h3,h4,h5,h6,hn,hg,hmd,c2,hk3,w2,m1,m2]
          exact⟨⟨k+1,hk3,rfl,by omega,gd⟩,upTo_lt h6 (by simp) hk3⟩
        · rw[hbw,decide_eq_false m2,Bool.not_false,Bool.or_true] at cd
          simp[h0,h3,h4,hn,hg,hmd,c,hat_1,hat_1',hat_1'',hat_2,hat_2',hat_2'',hat_3,hat_3',hat_3'',hi2,w,hlen,hfit,h0,h3,h4,h5,h6,hn,hg,hmd,c2,hk3,w2,m1,m2]
          exact⟨⟨k+1,hk3,by rw[cd];simp[cz],by omega,gd⟩,upTo_lt h6 (by simp) hk3⟩
      · have hk4:k=ws.length:=by omega
        subst hk4
        have hm1:=noUp_all hp2
        rw[anyTo_all] at h3
        rw[hm1,Bool.false_or] at hmis
        generalize ws.any (badW l)=wb at h3 hbdd
        obtain⟨c1,hc1⟩:∃ c1,(c0 || wb)=c1:=⟨_,rfl⟩
        rw[hc1] at h3
        simp[h0,h3,h4,hn,hg,hmd,c,hat_1,hat_1',hat_1'',hat_2,hat_2',hat_2'',hat_3,hat_3',hat_3'',hi2,w,hlen,hfit,h0,h3,h4,h5,h6,hn,hg,hmd,c2]
        refine LoopT.round (fun E S=>∃ (k:Nat),(k≤fs.length)∧E 0=some (.d (defsD l))∧E 3=some (.d (dI (cz (c1 || anyTo (badF l (decide (kind=3))) fs k))))∧E 4=some (.d (dI i))∧E 7=some (.d (dI k))∧(noUp (missF l) fs k)) (upTo 7 fs.length) ⟨0,by simp[h0,h3,h4,hn,hg,hmd,c,hat_1,hat_1',hat_1'',hat_2,hat_2',hat_2'',hat_3,hat_3',hat_3'',hi2,w,hlen,hfit,h0,h3,h4,h5,h6,hn,hg,hmd,c2];exact noUp_zero _ _⟩ ?_
        rintro E S hk ⟨k,hkl,h0,h3,h4,h7,hp3⟩
        have hn:S.n=109:=by first | (simpa using hk.n)|(have hh:=hk.n;simp[h0,h3,h4,hn,hg,hmd,c,hat_1,hat_1',hat_1'',hat_2,hat_2',hat_2'',hat_3,hat_3',hat_3'',hi2,w,hlen,hfit,h0,h3,h4,h5,h6,hn,hg,hmd,c2] at hh;exact hh)
        have hg:S.gl=gl:=by first | (simpa using hk.gl)|(have hh:=hk.gl;simp[h0,h3,h4,hn,hg,hmd,c,hat_1,hat_1',hat_1'',hat_2,hat_2',hat_2'',hat_3,hat_3',hat_3'',hi2,w,hlen,hfit,h0,h3,h4,h5,h6,hn,hg,hmd,c2] at hh;exact hh)
        have hmd:S.md=[]:=by first | (simpa using hk.md)|(have hh:=hk.md;simp[h0,h3,h4,hn,hg,hmd,c,hat_1,hat_1',hat_1'',hat_2,hat_2',hat_2'',hat_3,hat_3',hat_3'',hi2,w,hlen,hfit,h0,h3,h4,h5,h6,hn,hg,hmd,c2] at hh;exact hh)
        simp[h0,h3,h4,hn,hg,hmd,c,hat_1,hat_1',hat_1'',hat_2,hat_2',hat_2'',hat_3,hat_3',hat_3'',hi2,w,hlen,hfit,h0,h3,h4,h5,h6,hn,hg,hmd,c2,h0,h3,h4,h7,hn,hg,hmd]
        have w3:=wrap64 (n:=(k:Int)+1) (by omega) (by omega)
        refine BrT.dec (fun c3=>?_) (fun c3=>?_)
        · have hk3:k<fs.length:=by omega
          have flen:=flds_len fs
          have ffit:k*5+5≤fs.length*5:=by omega
          have fat:=flds_at fs hk3
          have mis:=any_at (p:=missF l) hk3
          have gd:=noUp_next hk3 hp3
          have cd:=anyTo_next (p:=badF l (decide (kind=3))) hk3
          have hfo:=hfo _ (List.getElem_mem hk3)
          have hfk:=hfk _ (List.getElem_mem hk3)
          generalize fs[k]=f at fat mis gd cd hfo hfk
          have hmf:missF l f=(decide (kindZ l (baseT f.ty)<0) || f.args.any (missA l)):=rfl
          have hbf:badF l (decide (kind=3)) f=(!goesB l (baseT f.ty) (decide (kind=3)) || f.args.any (badA l)):=rfl
          have hB:=p_l2Base (gl:=gl) f.ty 3 hfo.1
          have hK:=p_l2Kind (gl:=gl) l (baseT f.ty) hl0
          have hG:=p_l2Goes (gl:=gl) l (baseT f.ty) (decide (kind=3)) hl0
          generalize baseT f.ty=bt at hmf hbf hB hK hG
          generalize kindZ l bt=zk at hmf hK
          generalize goesB l bt (decide (kind=3))=zg at hbf hG
          generalize anyTo (badF l (decide (kind=3))) fs k=cb2 at h3 cd
          obtain⟨fn,args,fty⟩:=f
          cases fty with
          | mk ft flt fb =>
          obtain⟨hal,hak⟩:=hfk.2.1
          simp only at hmf hbf hfo hal hak
          simp only[Fld.cells,Typ.cells,List.cons_append,List.nil_append] at fat
          simp[h0,h3,h4,hn,hg,hmd,c,hat_1,hat_1',hat_1'',hat_2,hat_2',hat_2'',hat_3,hat_3',hat_3'',hi2,w,hlen,hfit,h0,h3,h4,h5,h6,hn,hg,hmd,c2,h0,h3,h4,h7,hn,hg,hmd,c3,hk3,w3,flen,ffit,fat]
          repeat refine⟨DrawT.mk (by kernel_rfl),?_⟩
          refine CallT.p0 (hB) (by first | rfl | (simp;done)|(simp[h0,h3,h4,hn,hg,hmd,c,hat_1,hat_1',hat_1'',hat_2,hat_2',hat_2'',hat_3,hat_3',hat_3'',hi2,w,hlen,hfit,h0,h3,h4,h5,h6,hn,hg,hmd,c2,h0,h3,h4,h7,hn,hg,hmd,c3,hk3,w3,flen,ffit,fat];done)) (by first | rfl | (simp;done)|(simp;rfl)|(simp[h0,h3,h4,hn,hg,hmd,c,hat_1,hat_1',hat_1'',hat_2,hat_2',hat_2'',hat_3,hat_3',hat_3'',hi2,w,hlen,hfit,h0,h3,h4,h5,h6,hn,hg,hmd,c2,h0,h3,h4,h7,hn,hg,hmd,c3,hk3,w3,flen,ffit,fat];done)) ?_
          simp[h0,h3,h4,hn,hg,hmd,c,hat_1,hat_1',hat_1'',hat_2,hat_2',hat_2'',hat_3,hat_3',hat_3'',hi2,w,hlen,hfit,h0,h3,h4,h5,h6,hn,hg,hmd,c2,h0,h3,h4,h7,hn,hg,hmd,c3,hk3,w3,flen,ffit,fat]
          repeat refine⟨DrawT.mk (by kernel_rfl),?_⟩
          refine CallT.p0 (hK) (by first | rfl | (simp;done)|(simp[h0,h3,h4,hn,hg,hmd,c,hat_1,hat_1',hat_1'',hat_2,hat_2',hat_2'',hat_3,hat_3',hat_3'',hi2,w,hlen,hfit,h0,h3,h4,h5,h6,hn,hg,hmd,c2,h0,h3,h4,h7,hn,hg,hmd,c3,hk3,w3,flen,ffit,fat];done)) (by first | rfl | (simp;done)|(simp;rfl)|(simp[h0,h3,h4,hn,hg,hmd,c,hat_1,hat_1',hat_1'',hat_2,hat_2',hat_2'',hat_3,hat_3',hat_3'',hi2,w,hlen,hfit,h0,h3,h4,h5,h6,hn,hg,hmd,c2,h0,h3,h4,h7,hn,hg,hmd,c3,hk3,w3,flen,ffit,fat];done)) ?_
          simp[h0,h3,h4,hn,hg,hmd,c,hat_1,hat_1',hat_1'',hat_2,hat_2',hat_2'',hat_3,hat_3',hat_3'',hi2,w,hlen,hfit,h0,h3,h4,h5,h6,hn,hg,hmd,c2,h0,h3,h4,h7,hn,hg,hmd,c3,hk3,w3,flen,ffit,fat]
          refine BrT.dec (fun m1=>?_) (fun m1=>?_)
          case refine_1=>(have hq:=bad (by rw[hmis,mis (by rw[hmf,decide_eq_true m1];rfl)]);simp[h0,h3,h4,hn,hg,hmd,c,hat_1,hat_1',hat_1'',hat_2,hat_2',hat_2'',hat_3,hat_3',hat_3'',hi2,w,hlen,hfit,h0,h3,h4,h5,h6,hn,hg,hmd,c2,h0,h3,h4,h7,hn,hg,hmd,c3,hk3,w3,flen,ffit,fat,m1,hq])
          rw[decide_eq_false m1,Bool.false_or] at hmf
          simp[h0,h3,h4,hn,hg,hmd,c,hat_1,hat_1',hat_1'',hat_2,hat_2',hat_2'',hat_3,hat_3',hat_3'',hi2,w,hlen,hfit,h0,h3,h4,h5,h6,hn,hg,hmd,c2,h0,h3,h4,h7,hn,hg,hmd,c3,hk3,w3,flen,ffit,fat,m1]
          repeat refine⟨DrawT.mk (by kernel_rfl),?_⟩
          refine CallT.p0 (hG) (by first | rfl | (simp;done)|(simp[h0,h3,h4,hn,hg,hmd,c,hat_1,hat_1',hat_1'',hat_2,hat_2',hat_2'',hat_3,hat_3',hat_3'',hi2,w,hlen,hfit,h0,h3,h4,h5,h6,hn,hg,hmd,c2,h0,h3,h4,h7,hn,hg,hmd,c3,hk3,w3,flen,ffit,fat,m1];done)) (by first | rfl | (simp;done)|(simp;rfl)|(simp[h0,h3,h4,hn,hg,hmd,c,hat_1,hat_1',hat_1'',hat_2,hat_2',hat_2'',hat_3,hat_3',hat_3'',hi2,w,hlen,hfit,h0,h3,h4,h5,h6,hn,hg,hmd,c2,h0,h3,h4,h7,hn,hg,hmd,c3,hk3,w3,flen,ffit,fat,m1];done)) ?_
          simp[h0,h3,h4,hn,hg,hmd,c,hat_1,hat_1',hat_1'',hat_2,hat_2',hat_2'',hat_3,hat_3',hat_3'',hi2,w,hlen,hfit,h0,h3,h4,h5,h6,hn,hg,hmd,c2,h0,h3,h4,h7,hn,hg,hmd,c3,hk3,w3,flen,ffit,fat,m1]
          have o7:=h7
          refine BrT.mk (fun mg=>?_) (fun mg=>?_)
          all_goals
            simp[h0,h3,h4,hn,hg,hmd,c,hat_1,hat_1',hat_1'',hat_2,hat_2',hat_2'',hat_3,hat_3',hat_3'',hi2,w,hlen,hfit,h0,h3,h4,h5,h6,hn,hg,hmd,c2,h0,h3,h4,h7,hn,hg,hmd,c3,hk3,w3,flen,ffit,fat,m1,mg]
            refine LoopT.round (fun E S=>∃ (q:Nat) (b:Nat),(q≤args.length)∧E 0=some (.d (defsD l))∧E 3=some (.d (dI (cz ((c1 || (cb2 || !zg)) || anyTo (badA l) args q))))∧E 4=some (.d (dI i))∧E 7=some (.d (dI k))∧E 8=some (.op b 0)∧E 10=some (.d (dI q))∧S.B b=some ([.d (dS fn), .d (argsD args), .d (dS ft), .d (typsD flt), .d (dB fb)])∧(noUp (missA l) args q)) (upTo 10 args.length) ⟨0,S.nx+8+8,by simp[h0,h3,h4,hn,hg,hmd,c,hat_1,hat_1',hat_1'',hat_2,hat_2',hat_2'',hat_3,hat_3',hat_3'',hi2,w,hlen,hfit,h0,h3,h4,h5,h6,hn,hg,hmd,c2,h0,h3,h4,h7,hn,hg,hmd,c3,hk3,w3,flen,ffit,fat,m1,mg,cz];exact noUp_zero _ _⟩ ?_
            rintro E S hk ⟨q,b,hql,h0,h3,h4,h7,h8,h10,hBb,hp4⟩
            have hn:S.n=109:=by first | (simpa using hk.n)|(have hh:=hk.n;simp[h0,h3,h4,hn,hg,hmd,c,hat_1,hat_1',hat_1'',hat_2,hat_2',hat_2'',hat_3,hat_3',hat_3'',hi2,w,hlen,hfit,h0,h3,h4,h5,h6,hn,hg,hmd,c2,h0,h3,h4,h7,hn,hg,hmd,c3,hk3,w3,flen,ffit,fat,m1,mg] at hh;exact hh)
            have hg:S.gl=gl:=by first | (simpa using hk.gl)|(have hh:=hk.gl;simp[h0,h3,h4,hn,hg,hmd,c,hat_1,hat_1',hat_1'',hat_2,hat_2',hat_2'',hat_3,hat_3',hat_3'',hi2,w,hlen,hfit,h0,h3,h4,h5,h6,hn,hg,hmd,c2,h0,h3,h4,h7,hn,hg,hmd,c3,hk3,w3,flen,ffit,fat,m1,mg] at hh;exact hh)
            have hmd:S.md=[]:=by first | (simpa using hk.md)|(have hh:=hk.md;simp[h0,h3,h4,hn,hg,hmd,c,hat_1,hat_1',hat_1'',hat_2,hat_2',hat_2'',hat_3,hat_3',hat_3'',hi2,w,hlen,hfit,h0,h3,h4,h5,h6,hn,hg,hmd,c2,h0,h3,h4,h7,hn,hg,hmd,c3,hk3,w3,flen,ffit,fat,m1,mg] at hh;exact hh)
            simp[h0,h3,h4,hn,hg,hmd,c,hat_1,hat_1',hat_1'',hat_2,hat_2',hat_2'',hat_3,hat_3',hat_3'',hi2,w,hlen,hfit,h0,h3,h4,h5,h6,hn,hg,hmd,c2,h0,h3,h4,h7,hn,hg,hmd,c3,hk3,w3,flen,ffit,fat,m1,mg,h0,h3,h4,h7,h8,h10,hBb,hn,hg,hmd]
            have w4:=wrap64 (n:=(q:Int)+1) (by omega) (by omega)
            refine BrT.dec (fun c4=>?_) (fun c4=>?_)
            · have hq3:q<args.length:=by omega
              have alen:=args_len args
              have afit:q*10+10≤args.length*10:=by omega
              have aat:=args_at args hq3
              have mis2:=any_at (p:=missA l) hq3
              have gd2:=noUp_next hq3 hp4
              have cd2:=anyTo_next (p:=badA l) hq3
              have haB:=hfo.2 _ (List.getElem_mem hq3)
              generalize args[q]=a at aat mis2 gd2 cd2 haB
              have hma:missA l a=decide (kindZ l (baseT a.ty)<0):=rfl
              have hba:badA l a = !goesB l (baseT a.ty) true:=rfl
              have hB2:=p_l2Base (gl:=gl) a.ty 3 (typ_of haB)
              have hK2:=p_l2Kind (gl:=gl) l (baseT a.ty) hl0
              have hG2:=p_l2Goes (gl:=gl) l (baseT a.ty) true hl0
              generalize baseT a.ty=bt2 at hma hba hB2 hK2 hG2
              generalize kindZ l bt2=zk2 at hma hK2
              generalize goesB l bt2 true=zg2 at hba hG2
              obtain⟨an,aty,ah,ae⟩:=a
              cases aty with
              | mk at_ alt ab =>
              cases ae with
              | mk ek en et el ens =>
              simp only[Arg.cells,Typ.cells,Val.cells,List.cons_append,List.nil_append] at aat
              have aat_1_3:=row_sub aat 1 3 (by decide)
              have aat_1_3':q*10+1+3≤_:=Nat.le_trans (by omega) afit
              simp[h0,h3,h4,hn,hg,hmd,c,hat_1,hat_1',hat_1'',hat_2,hat_2',hat_2'',hat_3,hat_3',hat_3'',hi2,w,hlen,hfit,h0,h3,h4,h5,h6,hn,hg,hmd,c2,h0,h3,h4,h7,hn,hg,hmd,c3,hk3,w3,flen,ffit,fat,m1,mg,h0,h3,h4,h7,h8,h10,hBb,hn,hg,hmd,c4,aat_1_3,aat_1_3',hq3,w4,alen,afit]
              repeat refine⟨DrawT.mk (by kernel_rfl),?_⟩
              refine CallT.p0 (hB2) (by first | rfl | (simp;done)|(simp[h0,h3,h4,hn,hg,hmd,c,hat_1,hat_1',hat_1'',hat_2,hat_2',hat_2'',hat_3,hat_3',hat_3'',hi2,w,hlen,hfit,h0,h3,h4,h5,h6,hn,hg,hmd,c2,h0,h3,h4,h7,hn,hg,hmd,c3,hk3,w3,flen,ffit,fat,m1,mg,h0,h3,h4,h7,h8,h10,hBb,hn,hg,hmd,c4,aat_1_3,aat_1_3',hq3,w4,alen,afit];done)) (by first | rfl | (simp;done)|(simp;rfl)|(simp[h0,h3,h4,hn,hg,hmd,c,hat_1,hat_1',hat_1'',hat_2,hat_2',hat_2'',hat_3,hat_3',hat_3'',hi2,w,hlen,hfit,h0,h3,h4,h5,h6,hn,hg,hmd,c2,h0,h3,h4,h7,hn,hg,hmd,c3,hk3,w3,flen,ffit,fat,m1,mg,h0,h3,h4,h7,h8,h10,hBb,hn,hg,hmd,c4,aat_1_3,aat_1_3',hq3,w4,alen,afit];done)) ?_
              simp[h0,h3,h4,hn,hg,hmd,c,hat_1,hat_1',hat_1'',hat_2,hat_2',hat_2'',hat_3,hat_3',hat_3'',hi2,w,hlen,hfit,h0,h3,h4,h5,h6,hn,hg,hmd,c2,h0,h3,h4,h7,hn,hg,hmd,c3,hk3,w3,flen,ffit,fat,m1,mg,h0,h3,h4,h7,h8,h10,hBb,hn,hg,hmd,c4,aat_1_3,aat_1_3',hq3,w4,alen,afit]
              repeat refine⟨DrawT.mk (by kernel_rfl),?_⟩
              refine CallT.p0 (hK2) (by first | rfl | (simp;done)|(simp[h0,h3,h4,hn,hg,hmd,c,hat_1,hat_1',hat_1'',hat_2,hat_2',hat_2'',hat_3,hat_3',hat_3'',hi2,w,hlen,hfit,h0,h3,h4,h5,h6,hn,hg,hmd,c2,h0,h3,h4,h7,hn,hg,hmd,c3,hk3,w3,flen,ffit,fat,m1,mg,h0,h3,h4,h7,h8,h10,hBb,hn,hg,hmd,c4,aat_1_3,aat_1_3',hq3,w4,alen,afit];done)) (by first | rfl | (simp;done)|(simp;rfl)|(simp[h0,h3,h4,hn,hg,hmd,c,hat_1,hat_1',hat_1'',hat_2,hat_2',hat_2'',hat_3,hat_3',hat_3'',hi2,w,hlen,hfit,h0,h3,h4,h5,h6,hn,hg,hmd,c2,h0,h3,h4,h7,hn,hg,hmd,c3,hk3,w3,flen,ffit,fat,m1,mg,h0,h3,h4,h7,h8,h10,hBb,hn,hg,hmd,c4,aat_1_3,aat_1_3',hq3,w4,alen,afit];done)) ?_
              simp[h0,h3,h4,hn,hg,hmd,c,hat_1,hat_1',hat_1'',hat_2,hat_2',hat_2'',hat_3,hat_3',hat_3'',hi2,w,hlen,hfit,h0,h3,h4,h5,h6,hn,hg,hmd,c2,h0,h3,h4,h7,hn,hg,hmd,c3,hk3,w3,flen,ffit,fat,m1,mg,h0,h3,h4,h7,h8,h10,hBb,hn,hg,hmd,c4,aat_1_3,aat_1_3',hq3,w4,alen,afit]
              refine BrT.dec (fun m3=>?_) (fun m3=>?_)
              case refine_1=>(have hq:=bad (by rw[hmis,mis (by rw[hmf,mis2 (by rw[hma];exact decide_eq_true m3)])]);simp[h0,h3,h4,hn,hg,hmd,c,hat_1,hat_1',hat_1'',hat_2,hat_2',hat_2'',hat_3,hat_3',hat_3'',hi2,w,hlen,hfit,h0,h3,h4,h5,h6,hn,hg,hmd,c2,h0,h3,h4,h7,hn,hg,hmd,c3,hk3,w3,flen,ffit,fat,m1,mg,h0,h3,h4,h7,h8,h10,hBb,hn,hg,hmd,c4,aat_1_3,aat_1_3',hq3,w4,alen,afit,m3,hq])
              have gd2:=gd2 (by rw[hma];exact decide_eq_false m3)
              simp[h0,h3,h4,hn,hg,hmd,c,hat_1,hat_1',hat_1'',hat_2,hat_2',hat_2'',hat_3,hat_3',hat_3'',hi2,w,hlen,hfit,h0,h3,h4,h5,h6,hn,hg,hmd,c2,h0,h3,h4,h7,hn,hg,hmd,c3,hk3,w3,flen,ffit,fat,m1,mg,h0,h3,h4,h7,h8,h10,hBb,hn,hg,hmd,c4,aat_1_3,aat_1_3',hq3,w4,alen,afit,m3]
              repeat refine⟨DrawT.mk (by kernel_rfl),?_⟩
              refine CallT.p0 (hG2) (by first | rfl | (simp;done)|(simp[h0,h3,h4,hn,hg,hmd,c,hat_1,hat_1',hat_1'',hat_2,hat_2',hat_2'',hat_3,hat_3',hat_3'',hi2,w,hlen,hfit,h0,h3,h4,h5,h6,hn,hg,hmd,c2,h0,h3,h4,h7,hn,hg,hmd,c3,hk3,w3,flen,ffit,fat,m1,mg,h0,h3,h4,h7,h8,h10,hBb,hn,hg,hmd,c4,aat_1_3,aat_1_3',hq3,w4,alen,afit,m3];done)) (by first | rfl | (simp;done)|(simp;rfl)|(simp[h0,h3,h4,hn,hg,hmd,c,hat_1,hat_1',hat_1'',hat_2,hat_2',hat_2'',hat_3,hat_3',hat_3'',hi2,w,hlen,hfit,h0,h3,h4,h5,h6,hn,hg,hmd,c2,h0,h3,h4,h7,hn,hg,hmd,c3,hk3,w3,flen,ffit,fat,m1,mg,h0,h3,h4,h7,h8,h10,hBb,hn,hg,hmd,c4,aat_1_3,aat_1_3',hq3,w4,alen,afit,m3];done)) ?_
              simp[h0,h3,h4,hn,hg,hmd,c,hat_1,hat_1',hat_1'',hat_2,hat_2',hat_2'',hat_3,hat_3',hat_3'',hi2,w,hlen,hfit,h0,h3,h4,h5,h6,hn,hg,hmd,c2,h0,h3,h4,h7,hn,hg,hmd,c3,hk3,w3,flen,ffit,fat,m1,mg,h0,h3,h4,h7,h8,h10,hBb,hn,hg,hmd,c4,aat_1_3,aat_1_3',hq3,w4,alen,afit,m3]
              refine BrT.mk (fun m4=>?_) (fun m4=>?_)
              · rw[hba,m4,Bool.not_true,Bool.or_false] at cd2
                rw[← cd2] at h3
                simp[h0,h3,h4,hn,hg,hmd,c,hat_1,hat_1',hat_1'',hat_2,hat_2',hat_2'',hat_3,hat_3',hat_3'',hi2,w,hlen,hfit,h0,h3,h4,h5,h6,hn,hg,hmd,c2,h0,h3,h4,h7,hn,hg,hmd,c3,hk3,w3,flen,ffit,fat,m1,mg,h0,h3,h4,h7,h8,h10,hBb,hn,hg,hmd,c4,aat_1_3,aat_1_3',hq3,w4,alen,afit,m3,m4]
                first | exact⟨⟨q+1,hq3,rfl,by omega,gd2⟩,upTo_lt h10 (by simp) hq3⟩ | exact⟨⟨q+1,hq3,by omega,gd2⟩,upTo_lt h10 (by simp) hq3⟩
              · rw[hba,m4,Bool.not_false,Bool.or_true] at cd2
                simp[h0,h3,h4,hn,hg,hmd,c,hat_1,hat_1',hat_1'',hat_2,hat_2',hat_2'',hat_3,hat_3',hat_3'',hi2,w,hlen,hfit,h0,h3,h4,h5,h6,hn,hg,hmd,c2,h0,h3,h4,h7,hn,hg,hmd,c3,hk3,w3,flen,ffit,fat,m1,mg,h0,h3,h4,h7,h8,h10,hBb,hn,hg,hmd,c4,aat_1_3,aat_1_3',hq3,w4,alen,afit,m3,m4]
                exact⟨⟨q+1,hq3,by first | rfl | (rw[cd2];simp[cz]),by omega,gd2⟩,upTo_lt h10 (by simp) hq3⟩
            · have hq4:q=args.length:=by omega
              subst hq4
              rw[noUp_all hp4] at hmf
              rw[anyTo_all] at h3
              have gd:=gd hmf
              have e:(c1 || (cb2 || !zg) || args.any (badA l))=(c1 || anyTo (badF l (decide (kind=3))) fs (k+1)):=by
                rw[cd,hbf]
                cases c1<;>cases cb2<;>cases zg<;>rfl
              rw[e] at h3
              simp[h0,h3,h4,hn,hg,hmd,c,hat_1,hat_1',hat_1'',hat_2,hat_2',hat_2'',hat_3,hat_3',hat_3'',hi2,w,hlen,hfit,h0,h3,h4,h5,h6,hn,hg,hmd,c2,h0,h3,h4,h7,hn,hg,hmd,c3,hk3,w3,flen,ffit,fat,m1,mg,h0,h3,h4,h7,h8,h10,hBb,hn,hg,hmd,c4]
              exact⟨⟨k+1,hk3,rfl,by omega,gd⟩,upTo_lt o7 (by simp) hk3⟩
        · have hk4:k=fs.length:=by omega
          subst hk4
          have hm2:=noUp_all hp3
          rw[anyTo_all] at h3
          rw[hm2] at hmis
          have gd:=good hmis
          have e:(c1 || fs.any (badF l (decide (kind=3))))=anyTo (badD l) l (i+1):=by
            rw[code,hbdd, ← hc1,Bool.or_assoc]
          rw[e] at h3
          simp[h0,h3,h4,hn,hg,hmd,c,hat_1,hat_1',hat_1'',hat_2,hat_2',hat_2'',hat_3,hat_3',hat_3'',hi2,w,hlen,hfit,h0,h3,h4,h5,h6,hn,hg,hmd,c2,h0,h3,h4,h7,hn,hg,hmd,c3]
          exact⟨⟨i+1,hi2,rfl,by omega,gd⟩,upTo_lt o4 (by simp) hi2⟩
  · have hi3:i=l.length:=by omega
    subst hi3
    have hq:=fine (noUp_all hp)
    rw[anyTo_all] at h3
    simp[h0,h3,h4,hn,hg,hmd,c,hq]
def rootBad (l:List Def):Bool:=!decide (kindZ l queryS=1) || (decide (0≤atZ l mutS) && !decide (kindZ l mutS=1))
def roundP (l:List Def):Bool:=l.any fun d=>roundZ l (l.length+1) d.name
def checkQ (l:List Def):Int :=
  if 10<l.length then 1 else if ¬ onceB (defNames l)=true then 2 else if ¬ namesZ l=0 then namesZ l else if rootBad l=true then 5 else if ¬ (l.all (defFits l))=true then 6 else if roundP l=true then 7 else 0
def checkP (l:List Def):Int:=if ¬ (l.all defB)=true then 1 else checkQ l
set_option maxHeartbeats 8000000 in
theorem p_spSchemaCheck (l:List Def) (hl:l.length≤1048576) (hsm:∀ d∈l,DefSm d):PCall Tryz.prog gl 17 [defsD l] (dI (checkP l)):=by
  obtain⟨z,hz⟩:∃ z,checkP l=z:=⟨_,rfl⟩
  rw[hz]
  unfold checkP at hz
  refine PCall.by_ (md:=[]) Tryz.func17 rfl (by kernel_rfl) (n:=72) Tryz.ntmps17 (by simp) (by decide) rfl ?_
  simp
  refine LoopT.round (fun E S=>∃ (i:Nat) (X:SV),(i≤l.length)∧E 0=some (.d (defsD l))∧E 3=some (X)∧E 4=some (.d (dI i))∧(AccD 1 S X (accN Def.name l i) i)∧(allUp defB l i)) (upTo 4 l.length) ⟨0, .fl [] 0,by simp;exact⟨AccD.nil,allUp_zero _ _⟩⟩ ?_
  rintro E S hk ⟨i,X,hi,h0,h3,h4,hA,hp⟩
  have hn:S.n=72:=by first | (simpa using hk.n)|(have hh:=hk.n;simp at hh;exact hh)
  have hg:S.gl=gl:=by first | (simpa using hk.gl)|(have hh:=hk.gl;simp at hh;exact hh)
  have hmd:S.md=[]:=by first | (simpa using hk.md)|(have hh:=hk.md;simp at hh;exact hh)
  simp[h0,h3,h4,hn,hg,hmd]
  have w:=wrap64 (n:=(i:Int)+1) (by omega) (by omega)
  refine BrT.dec (fun c=>?_) (fun c=>?_)
  · have hi2:i<l.length:=by omega
    have hlen:=defs_len l
    have hfit:i*4+4≤l.length*4:=by omega
    have hat:=defs_at l hi2
    have hS:=hsm _ (List.getElem_mem hi2)
    have bad:defB l[i]=false→z=1:=fun h=>by rw[← hz,if_pos (by rw[all_bad hi2 h];decide)]
    have good:=all_take (p:=defB) hi2 hp
    have hcl:=accN_len Def.name l hi
    obtain⟨x,hx1⟩:∃ x,l[i].name=x:=⟨_,rfl⟩
    have hsn:=fun S' q h1 h2=>AccD.snoc (f:=Def.name) (l:=l) (S:=S) (S':=S') (i:=i) (q:=q) hi2 h1 h2 hx1.symm
    generalize hav:l[i]=d at hS bad good hat hx1
    have hF:=p_l2Form (gl:=gl) d hS
    obtain⟨dn,kind,fs,words⟩:=d
    simp only at hx1
    subst hx1
    simp only[Def.cells] at hat
    have hat_0:=row_get0 hat (by decide) rfl
    have hat_0'':=(List.getElem?_eq_some_iff.1 hat_0).2
    have hat_0':i*4<_:=Nat.lt_of_lt_of_le (by omega) hfit
    have hat_0_4:=row_sub0 hat 4 (by decide)
    have hat_0_4':i*4+4≤_:=Nat.le_trans (by omega) hfit
    rcases hA with ⟨hi0,hcs,rfl⟩ | ⟨hpos,q,hq0,rfl,hT0⟩
    case' inl=>simp[h0,h3,h4,hn,hg,hmd,c,hat_0,hat_0',hat_0'',hat_0_4,hat_0_4',hi2,w,hlen,hfit]
    case' inr=>simp[h0,h3,h4,hn,hg,hmd,c,hat_0,hat_0',hat_0'',hat_0_4,hat_0_4',hi2,w,hlen,hfit,hT0,hcl]
    all_goals
      refine⟨by unfold appBound;omega,?_⟩
      repeat refine⟨DrawT.mk (by kernel_rfl),?_⟩
      refine CallT.p0 (hF) (by first | rfl | (simp;done)|(simp[h0,h3,h4,hn,hg,hmd,c,hat_0,hat_0',hat_0'',hat_0_4,hat_0_4',hi2,w,hlen,hfit,Def.cells];done)) (by first | rfl | (simp;done)|(simp;rfl)|(simp[h0,h3,h4,hn,hg,hmd,c,hat_0,hat_0',hat_0'',hat_0_4,hat_0_4',hi2,w,hlen,hfit,Def.cells];done)) ?_
      simp[h0,h3,h4,hn,hg,hmd,c,hat_0,hat_0',hat_0'',hat_0_4,hat_0_4',hi2,w,hlen,hfit,Def.cells]
      refine BrT.mk (fun c1=>?_) (fun c1=>?_)
      case refine_2=>(have hq:=bad c1;simp[h0,h3,h4,hn,hg,hmd,c,hat_0,hat_0',hat_0'',hat_0_4,hat_0_4',hi2,w,hlen,hfit,Def.cells,c1,hq])
      have hp2:allUp defB l (i+1):=good c1
      simp[h0,h3,h4,hn,hg,hmd,c,hat_0,hat_0',hat_0'',hat_0_4,hat_0_4',hi2,w,hlen,hfit,Def.cells,c1]
      first
      | exact⟨⟨i+1,hi2,by omega,by subst hi0;exact hsn _ _ (by simp) (by simp),hp2⟩,upTo_lt h4 (by simp) hi2⟩
      | exact⟨⟨i+1,hi2,by omega,hsn _ _ (by simp;omega) (by simp),hp2⟩,upTo_lt h4 (by simp) hi2⟩
  · have hi3:i=l.length:=by omega
    subst hi3
    have hall:=allUp_all hp
    rw[if_neg (by rw[hall];decide)] at hz
    have hd:∀ d∈l,defB d=true∧DefOk d:=fun d hm=>⟨List.all_eq_true.1 hall d hm,def_ok (hsm d hm)⟩
    have hnm:NamesOk (defNames l):=⟨by simp;omega,fun s hs=>by
      obtain⟨a,ha,rfl⟩:=List.mem_map.1 hs
      exact (hd a ha).2.1⟩
    have hX:=hA.names
    unfold checkQ at hz
    simp[h0,h3,h4,hn,hg,hmd,c,hX]
    refine BrT.dec (fun t0=>?_) (fun t0=>?_)
    case refine_1=>(rw[if_pos (by omega)] at hz;simp[h0,h3,h4,hn,hg,hmd,c,hX,t0, ← hz])
    have hl10:l.length≤10:=by omega
    rw[if_neg (by omega)] at hz
    simp[h0,h3,h4,hn,hg,hmd,c,hX,t0]
    repeat refine⟨DrawT.mk (by kernel_rfl),?_⟩
    refine CallT.p0 (p_l1Once (defNames l) hnm) (by first | rfl | (simp;done)|(simp[h0,h3,h4,hn,hg,hmd,c,hX,t0];done)) (by first | rfl | (simp;done)|(simp;rfl)|(simp[h0,h3,h4,hn,hg,hmd,c,hX,t0];done)) ?_
    simp[h0,h3,h4,hn,hg,hmd,c,hX,t0]
    refine BrT.mk (fun t1=>?_) (fun t1=>?_)
    case refine_2=>(rw[if_pos (by rw[t1];decide)] at hz;simp[h0,h3,h4,hn,hg,hmd,c,hX,t0,t1, ← hz])
    rw[if_neg (fun e=>e t1)] at hz
    simp[h0,h3,h4,hn,hg,hmd,c,hX,t0,t1]
    have hN:=p_l2Names (gl:=gl) l (by omega) hd
    generalize namesZ l=nz at hN hz
    repeat refine⟨DrawT.mk (by kernel_rfl),?_⟩
    refine CallT.p0 (hN) (by first | rfl | (simp;done)|(simp[h0,h3,h4,hn,hg,hmd,c,hX,t0,t1];done)) (by first | rfl | (simp;done)|(simp;rfl)|(simp[h0,h3,h4,hn,hg,hmd,c,hX,t0,t1];done)) ?_
    simp[h0,h3,h4,hn,hg,hmd,c,hX,t0,t1]
    refine BrT.dec (fun t2=>?_) (fun t2=>?_)
    case' refine_2 =>
      rw[if_pos t2] at hz
      simp[h0,h3,h4,hn,hg,hmd,c,hX,t0,t1,t2]
      repeat refine⟨DrawT.mk (by kernel_rfl),?_⟩
      refine CallT.p0 (hN) (by first | rfl | (simp;done)|(simp[h0,h3,h4,hn,hg,hmd,c,hX,t0,t1,t2];done)) (by first | rfl | (simp;done)|(simp;rfl)|(simp[h0,h3,h4,hn,hg,hmd,c,hX,t0,t1,t2];done)) ?_
      simp[h0,h3,h4,hn,hg,hmd,c,hX,t0,t1,t2,  ← hz]
    rw[if_neg (fun e=>e t2)] at hz
    simp[h0,h3,h4,hn,hg,hmd,c,hX,t0,t1,t2]
    have hQ:=p_l2Kind (gl:=gl) l queryS (by omega)
    have hM:=p_l2Kind (gl:=gl) l mutS (by omega)
    have hMa:=p_l2At (gl:=gl) l mutS (by omega)
    unfold rootBad at hz
    generalize kindZ l queryS=kq at hQ hz
    generalize kindZ l mutS=km at hM hz
    generalize atZ l mutS=am at hMa hz
    repeat refine⟨DrawT.mk (by kernel_rfl),?_⟩
    refine CallT.p0 (hQ) (by first | rfl | (simp;done)|(simp[h0,h3,h4,hn,hg,hmd,c,hX,t0,t1,t2];done)) (by first | rfl | (simp;done)|(simp;rfl)|(simp[h0,h3,h4,hn,hg,hmd,c,hX,t0,t1,t2];done)) ?_
    simp[h0,h3,h4,hn,hg,hmd,c,hX,t0,t1,t2]
    refine BrT.dec (fun t3=>?_) (fun t3=>?_)
    case refine_2=>(rw[if_pos (by rw[decide_eq_false t3];rfl)] at hz;simp[h0,h3,h4,hn,hg,hmd,c,hX,t0,t1,t2,t3, ← hz])
    rw[decide_eq_true t3,Bool.not_true,Bool.false_or] at hz
    simp[h0,h3,h4,hn,hg,hmd,c,hX,t0,t1,t2,t3]
    repeat refine⟨DrawT.mk (by kernel_rfl),?_⟩
    refine CallT.p0 (hMa) (by first | rfl | (simp;done)|(simp[h0,h3,h4,hn,hg,hmd,c,hX,t0,t1,t2,t3];done)) (by first | rfl | (simp;done)|(simp;rfl)|(simp[h0,h3,h4,hn,hg,hmd,c,hX,t0,t1,t2,t3];done)) ?_
    simp[h0,h3,h4,hn,hg,hmd,c,hX,t0,t1,t2,t3]
    refine BrT.dec (fun t4=>?_) (fun t4=>?_)
    case' refine_1 =>
      rw[decide_eq_true t4,Bool.true_and] at hz
      simp[h0,h3,h4,hn,hg,hmd,c,hX,t0,t1,t2,t3,t4]
      repeat refine⟨DrawT.mk (by kernel_rfl),?_⟩
      refine CallT.p0 (hM) (by first | rfl | (simp;done)|(simp[h0,h3,h4,hn,hg,hmd,c,hX,t0,t1,t2,t3,t4];done)) (by first | rfl | (simp;done)|(simp;rfl)|(simp[h0,h3,h4,hn,hg,hmd,c,hX,t0,t1,t2,t3,t4];done)) ?_
      simp[h0,h3,h4,hn,hg,hmd,c,hX,t0,t1,t2,t3,t4]
      refine BrT.dec (fun t5=>?_) (fun t5=>?_)
      case refine_2=>(rw[decide_eq_false t5,if_pos (by decide)] at hz;simp[h0,h3,h4,hn,hg,hmd,c,hX,t0,t1,t2,t3,t4,t5, ← hz])
      rw[decide_eq_true t5,if_neg (by decide)] at hz
      simp[h0,h3,h4,hn,hg,hmd,c,hX,t0,t1,t2,t3,t4,t5]
    case' refine_2 =>
      rw[decide_eq_false t4,Bool.false_and,if_neg (by decide)] at hz
      simp[h0,h3,h4,hn,hg,hmd,c,hX,t0,t1,t2,t3,t4]
    all_goals
      repeat refine⟨DrawT.mk (by kernel_rfl),?_⟩
      refine CallT.p0 (p_l2Else l (by omega) hd) (by first | rfl | (simp;done)|(simp[h0,h3,h4,hn,hg,hmd,c,hX,t0,t1,t2,t3,t4];done)) (by first | rfl | (simp;done)|(simp;rfl)|(simp[h0,h3,h4,hn,hg,hmd,c,hX,t0,t1,t2,t3,t4];done)) ?_
      simp[h0,h3,h4,hn,hg,hmd,c,hX,t0,t1,t2,t3,t4]
      refine BrT.mk (fun t6=>?_) (fun t6=>?_)
      case refine_2=>(rw[if_pos (by rw[t6];decide)] at hz;simp[h0,h3,h4,hn,hg,hmd,c,hX,t0,t1,t2,t3,t4,t6, ← hz])
      rw[if_neg (fun e=>e t6)] at hz
      simp[h0,h3,h4,hn,hg,hmd,c,hX,t0,t1,t2,t3,t4,t6]
      refine LoopT.round (fun E S=>∃ (i:Nat),(i≤l.length)∧E 0=some (.d (defsD l))∧E 5=some (.d (dI i))∧(noUp (fun d=>roundZ l (l.length+1) d.name) l i)) (upTo 5 l.length) ⟨0,by simp[h0,h3,h4,hn,hg,hmd,c,hX,t0,t1,t2,t3,t4,t6];exact noUp_zero _ _⟩ ?_
      rintro E S hk ⟨i,hi,h0,h5,hpr⟩
      have hn:S.n=72:=by first | (simpa using hk.n)|(have hh:=hk.n;simp[h0,h3,h4,hn,hg,hmd,c,hX,t0,t1,t2,t3,t4,t6] at hh;exact hh)
      have hg:S.gl=gl:=by first | (simpa using hk.gl)|(have hh:=hk.gl;simp[h0,h3,h4,hn,hg,hmd,c,hX,t0,t1,t2,t3,t4,t6] at hh;exact hh)
      have hmd:S.md=[]:=by first | (simpa using hk.md)|(have hh:=hk.md;simp[h0,h3,h4,hn,hg,hmd,c,hX,t0,t1,t2,t3,t4,t6] at hh;exact hh)
      simp[h0,h3,h4,hn,hg,hmd,c,hX,t0,t1,t2,t3,t4,t6,h0,h5,hn,hg,hmd]
      have w:=wrap64 (n:=(i:Int)+1) (by omega) (by omega)
      refine BrT.dec (fun c5=>?_) (fun c5=>?_)
      · have hi2:i<l.length:=by omega
        have hlen:=defs_len l
        have hfit:i*4+4≤l.length*4:=by omega
        have hat:=defs_at l hi2
        have yes:=any_at (p:=fun d=>roundZ l (l.length+1) d.name) hi2
        have gd:=noUp_next (p:=fun d=>roundZ l (l.length+1) d.name) hi2 hpr
        generalize l[i]=d at hat yes gd
        obtain⟨dn,kind,fs,words⟩:=d
        have hR:=p_l2Round (gl:=gl) l (by omega) (fun d hm=>(hd d hm).2) (l.length+1) dn (Nat.le_refl _)
        rw[Nat.sub_self] at hR
        simp only[Def.cells] at hat
        simp only at yes gd
        have hat_0:=row_get0 hat (by decide) rfl
        have hat_0'':=(List.getElem?_eq_some_iff.1 hat_0).2
        have hat_0':i*4<_:=Nat.lt_of_lt_of_le (by omega) hfit
        simp[h0,h3,h4,hn,hg,hmd,c,hX,t0,t1,t2,t3,t4,t6,h0,h5,hn,hg,hmd,c5,hat_0,hat_0',hat_0'',hi2,w,hlen,hfit]
        repeat refine⟨DrawT.mk (by kernel_rfl),?_⟩
        refine CallT.p0 (hR) (by first | rfl | (simp;done)|(simp[h0,h3,h4,hn,hg,hmd,c,hX,t0,t1,t2,t3,t4,t6,h0,h5,hn,hg,hmd,c5,hat_0,hat_0',hat_0'',hi2,w,hlen,hfit];done)) (by first | rfl | (simp;done)|(simp;rfl)|(simp[h0,h3,h4,hn,hg,hmd,c,hX,t0,t1,t2,t3,t4,t6,h0,h5,hn,hg,hmd,c5,hat_0,hat_0',hat_0'',hi2,w,hlen,hfit];done)) ?_
        simp[h0,h3,h4,hn,hg,hmd,c,hX,t0,t1,t2,t3,t4,t6,h0,h5,hn,hg,hmd,c5,hat_0,hat_0',hat_0'',hi2,w,hlen,hfit]
        refine BrT.mk (fun c6=>?_) (fun c6=>?_)
        · have hq:roundP l=true:=yes c6
          rw[if_pos hq] at hz
          simp[h0,h3,h4,hn,hg,hmd,c,hX,t0,t1,t2,t3,t4,t6,h0,h5,hn,hg,hmd,c5,hat_0,hat_0',hat_0'',hi2,w,hlen,hfit,c6, ← hz]
        · simp[h0,h3,h4,hn,hg,hmd,c,hX,t0,t1,t2,t3,t4,t6,h0,h5,hn,hg,hmd,c5,hat_0,hat_0',hat_0'',hi2,w,hlen,hfit,c6]
          exact⟨⟨i+1,hi2,by omega,gd c6⟩,upTo_lt h5 (by simp) hi2⟩
      · have hi3:i=l.length:=by omega
        subst hi3
        have hq:roundP l=false:=noUp_all hpr
        rw[if_neg (by rw[hq];decide)] at hz
        simp[h0,h3,h4,hn,hg,hmd,c,hX,t0,t1,t2,t3,t4,t6,h0,h5,hn,hg,hmd,c5, ← hz]
end Go.Proofs.YtbmoiajdknejnaaGreat
namespace Go.Proofs.YtbmoiajdknejnaaGreat
open Go.Sh
section
variable {l:List Def}
theorem form_kind (h:∀ d∈l,defB d=true):∀ d∈l,d.kind=1∨d.kind=2∨d.kind=3∨d.kind=4:=fun d hd=>by
  have:=h d hd
  unfold defB at this
  rw[Bool.and_eq_true] at this
  have:=this.2
  split at this
  · omega
  · split at this
    · omega
    · cases this
theorem form_name (h:∀ d∈l,defB d=true):∀ d∈l,nameB d.name=true∧groundB d.name=false:=fun d hd=>by
  have:=h d hd
  unfold defB at this
  rw[Bool.and_eq_true,Bool.and_eq_true] at this
  exact⟨this.1.1,by simpa using this.1.2⟩
theorem at_mem {s:ByteArray}{j:Nat} (h:atD l s=some j):∃ hj:j<l.length,l[j].name=s:=by
  obtain⟨h1,h2,_⟩:=List.findIdx?_eq_some_iff_getElem.1 h
  exact⟨h1,by simpa using h2⟩
theorem ground_at (h:∀ d∈l,defB d=true) {s:ByteArray} (hg:groundB s=true):atD l s=none:=by
  cases ha:atD l s with
  | none=>rfl
  | some j =>
    obtain⟨hj,he⟩:=at_mem ha
    have:=(form_name h _ (List.getElem_mem hj)).2
    rw[he,hg] at this;cases this
theorem kindL_at {s:ByteArray}{j:Nat} (h:atD l s=some j) (hj:j<l.length):kindL l s=l[j].kind:=by rw[kindL,defL_some h]
theorem kind_both (h:∀ d∈l,defB d=true) (s:ByteArray):(groundB s=true∧kindZ l s=0∧kindL l s=0∧atD l s=none)∨(groundB s=false∧atD l s=none∧kindZ l s = -1∧kindL l s=0) ∨
    (groundB s=false∧(∃ j,atD l s=some j)∧kindZ l s=kindL l s∧(kindL l s=1∨kindL l s=2∨kindL l s=3∨kindL l s=4)):=by
  cases hg:groundB s with
  | true =>
    have ha:=ground_at h hg
    exact .inl ⟨rfl,by rw[kindZ,if_pos hg],by rw[kindL,defL_none ha];rfl,ha⟩
  | false =>
    refine .inr ?_
    cases ha:atD l s with
    | none =>
      refine .inl ⟨rfl,rfl,?_,by rw[kindL,defL_none ha];rfl⟩
      have:atZ l s = -1:=by unfold atZ;rw[ha]
      rw[kindZ,if_neg (by rw[hg];decide),if_pos (by omega)]
    | some j =>
      obtain⟨hj,he⟩:=at_mem ha
      refine .inr ⟨rfl,⟨j,rfl⟩,?_,?_⟩
      · have:atZ l s=j:=by unfold atZ;rw[ha]
        rw[kindZ,if_neg (by rw[hg];decide),if_neg (by omega)]
      · rw[kindL_at ha hj]
        exact form_kind h _ (List.getElem_mem hj)
theorem miss_eq (h:∀ d∈l,defB d=true) (s:ByteArray):decide (kindZ l s<0) = !hereB l s:=by
  unfold hereB
  rcases kind_both h s with ⟨h1,h2,h3,h4⟩ | ⟨h1,h2,h3,h4⟩ | ⟨h1,⟨j,h2⟩,h3,h4⟩
  · rw[h1,h2];simp
  · rw[h1,h2,h3];simp
  · rw[h1,h2]
    have:¬ kindZ l s<0:=by omega
    rw[decide_eq_false this];rfl
theorem goes_in (h:∀ d∈l,defB d=true) (s:ByteArray):goesB l s true=givenB l s:=by
  unfold goesB givenB
  rcases kind_both h s with ⟨h1,h2,h3,h4⟩ | ⟨h1,h2,h3,h4⟩ | ⟨h1,⟨j,h2⟩,h3,h4⟩
  · rw[h1,h2];simp
  · rw[h1,h3,h4];decide
  · rw[h1,h3]
    rcases h4 with h4 | h4 | h4 | h4<;>rw[h4]<;>decide
theorem goes_out (h:∀ d∈l,defB d=true) (s:ByteArray):goesB l s false=outB l s:=by
  unfold goesB outB
  rcases kind_both h s with ⟨h1,h2,h3,h4⟩ | ⟨h1,h2,h3,h4⟩ | ⟨h1,⟨j,h2⟩,h3,h4⟩
  · rw[h1,h2];simp
  · rw[h1,h3,h4];decide
  · rw[h1,h3]
    rcases h4 with h4 | h4 | h4 | h4<;>rw[h4]<;>decide
theorem obj_eq (h:∀ d∈l,defB d=true) (s:ByteArray):decide (kindZ l s=1)=decide (kindL l s=1):=by
  rcases kind_both h s with ⟨h1,h2,h3,h4⟩ | ⟨h1,h2,h3,h4⟩ | ⟨h1,⟨j,h2⟩,h3,h4⟩
  · rw[h2,h3]
  · rw[h3,h4];decide
  · rw[h3]
theorem form_words (h:∀ d∈l,defB d=true):∀ d∈l,(d.kind=1∨d.kind=3→d.words=[])∧(d.kind=2∨d.kind=4→d.flds=[]):=fun d hd=>by
  have:=h d hd
  unfold defB at this
  rw[Bool.and_eq_true] at this
  have:=this.2
  split at this
  · rename_i hk
    rw[Bool.and_eq_true] at this
    refine⟨fun _=>List.eq_nil_of_length_eq_zero (of_decide_eq_true this.1),fun e=>by omega⟩
  · rename_i hk
    split at this
    · rw[Bool.and_eq_true] at this
      refine⟨fun e=>absurd e hk,fun _=>List.eq_nil_of_length_eq_zero (of_decide_eq_true this.1)⟩
    · cases this
theorem not_any {α:Type} (p:α→Bool) (l:List α):(!l.any p)=l.all fun x=>!p x:=by
  induction l with
  | nil=>rfl
  | cons x r ih=>simp[← ih]
theorem all_congr {α:Type}{p q:α→Bool}{l:List α} (h:∀ x∈l,p x=q x):l.all p=l.all q:=by
  rw[Bool.eq_iff_iff,List.all_eq_true,List.all_eq_true]
  exact⟨fun k x hx=>by rw[← h x hx];exact k x hx,fun k x hx=>by rw[h x hx];exact k x hx⟩
theorem any_congr {α:Type}{p q:α→Bool}{l:List α} (h:∀ x∈l,p x=q x):l.any p=l.any q:=by
  rw[Bool.eq_iff_iff,List.any_eq_true,List.any_eq_true]
  exact⟨fun ⟨x,hx,k⟩=>⟨x,hx,by rw[← h x hx];exact k⟩,fun ⟨x,hx,k⟩=>⟨x,hx,by rw[h x hx];exact k⟩⟩
theorem missD_eq (h:∀ d∈l,defB d=true) (d:Def) (hd:d∈l):missD l d = !defHere l d:=by
  have hF:d.flds.any (missF l) = !d.flds.all (fldHere l):=by
    rw[← Bool.not_not (d.flds.any (missF l)),not_any]
    refine congrArg _ (all_congr fun f _=>?_)
    unfold missF fldHere
    rw[miss_eq h,Bool.not_or,Bool.not_not,not_any]
    refine congrArg _ (all_congr fun a _=>?_)
    unfold missA
    rw[miss_eq h,Bool.not_not]
  have hW:(wordsOf d).any (missW l) = !d.words.all (wordHere l d):=by
    rw[← Bool.not_not ((wordsOf d).any (missW l)),not_any]
    refine congrArg _ ?_
    unfold wordsOf
    by_cases k2:d.kind=2
    · rw[if_pos k2]
      symm
      refine List.all_eq_true.2 fun w _=>?_
      unfold wordHere
      rw[decide_eq_false (by omega)];rfl
    · rw[if_neg k2]
      by_cases k4:d.kind=4
      · refine all_congr fun w _=>?_
        unfold missW wordHere
        rw[miss_eq h,decide_eq_true k4];simp
      · have hk:=form_kind h d hd
        rw[(form_words h d hd).1 (by omega)];rfl
  unfold missD defHere
  rw[hF,hW,Bool.or_comm, ← Bool.not_and]
theorem badD_eq (h:∀ d∈l,defB d=true) (d:Def) (hd:d∈l):badD l d = !defPlaced l d:=by
  have hk:=form_kind h d hd
  have hF:d.flds.any (badF l (decide (d.kind=3))) = !d.flds.all (fldPlaced l d):=by
    rw[← Bool.not_not (d.flds.any _),not_any]
    refine congrArg _ (all_congr fun f hf=>?_)
    unfold badF fldPlaced placeB
    rw[Bool.not_or,Bool.not_not,not_any]
    have e:(f.args.all fun a=>!badA l a)=f.args.all fun a=>givenB l (baseT a.ty):=all_congr fun a _=>by
      unfold badA
      rw[goes_in h,Bool.not_not]
    rw[e]
    refine congrArg (·&&_) ?_
    by_cases k3:d.kind=3
    · rw[k3];simp[goes_in h]
    · rw[decide_eq_false k3,goes_out h]
      by_cases k1:d.kind=1
      · rw[k1];simp
      · have:d.flds=[]:=(form_words h d hd).2 (by omega)
        rw[this] at hf;cases hf
  have hW:(wordsOf d).any (badW l) = !d.words.all (wordPlaced l d):=by
    rw[← Bool.not_not ((wordsOf d).any _),not_any]
    refine congrArg _ ?_
    unfold wordsOf
    by_cases k2:d.kind=2
    · rw[if_pos k2]
      symm
      refine List.all_eq_true.2 fun w _=>?_
      unfold wordPlaced
      rw[decide_eq_false (by omega)];rfl
    · rw[if_neg k2]
      by_cases k4:d.kind=4
      · refine all_congr fun w _=>?_
        unfold badW wordPlaced
        rw[obj_eq h,decide_eq_true k4];simp
      · rw[(form_words h d hd).1 (by omega)];rfl
  unfold badD defPlaced
  rw[hF,hW,Bool.or_comm, ← Bool.not_and]
theorem names_eq (h:∀ d∈l,defB d=true):namesZ l=if ¬ (l.all (defHere l))=true then 3 else if ¬ (l.all (defPlaced l))=true then 4 else 0:=by
  have e1:l.any (missD l) = !l.all (defHere l):=by
    rw[← Bool.not_not (l.any _),not_any]
    refine congrArg _ (all_congr fun d hd=>?_)
    rw[missD_eq h d hd,Bool.not_not]
  have e2:l.any (badD l) = !l.all (defPlaced l):=by
    rw[← Bool.not_not (l.any _),not_any]
    refine congrArg _ (all_congr fun d hd=>?_)
    rw[badD_eq h d hd,Bool.not_not]
  unfold namesZ cz
  rw[e1,e2]
  cases l.all (defHere l)<;>cases l.all (defPlaced l)<;>rfl
theorem roots_eq (h:∀ d∈l,defB d=true):rootBad l = !rootsB l:=by
  unfold rootBad rootsB
  have hm:decide (0≤atZ l mutS)=(atD l mutS).isSome:=by
    unfold atZ
    cases atD l mutS with
    | none=>rfl
    | some j=>simp
  rw[obj_eq h,obj_eq h,hm]
  cases decide (kindL l queryS=1)<;>cases (atD l mutS).isSome<;>cases decide (kindL l mutS=1)<;>rfl
end
end Go.Proofs.YtbmoiajdknejnaaGreat
namespace Go.Proofs.YtbmoiajdknejnaaGreat
open Go.Sh
section
variable {l:List Def}
theorem atD_none_iff {a:List Def}{s:ByteArray}:atD a s=none↔¬ s∈defNames a:=by
  unfold atD
  rw[List.findIdx?_eq_none_iff]
  simp
theorem schGo_once:∀ (r acc:List Def),(defNames acc).Nodup→((schGo acc r).length=acc.length+r.length↔(defNames (acc++r)).Nodup)
  | [],acc,h=>by simpa[schGo] using h
  | d::r,acc,h=>by
    unfold schGo
    split
    · rename_i ha
      have hn:=atD_none_iff.1 ha
      have h2:(defNames (acc++[d])).Nodup:=by
        simp only[defNames,List.map_append,List.map_cons,List.map_nil]
        rw[List.nodup_append]
        refine⟨h,by simp,fun a ha b hb e=>?_⟩
        simp at hb
        exact hn (by rw[← hb, ← e];exact ha)
      have ih:=schGo_once r (acc++[d]) h2
      rw[List.append_assoc] at ih
      rw[show acc++d::r=acc++([d]++r) by simp, ← ih]
      simp;omega
    · rename_i j ha
      have hm:d.name∈defNames acc:=by
        cases hx:atD acc d.name with
        | none=>rw[hx] at ha;cases ha
        | some j=>obtain⟨hj,e⟩:=at_mem hx;exact List.mem_map.2 ⟨_,List.getElem_mem hj,e⟩
      have hl:=(schGo_len r acc).1
      refine⟨fun e=>by simp at e;omega,fun e=>?_⟩
      exfalso
      simp only[defNames,List.map_append,List.map_cons] at e
      rw[List.nodup_append] at e
      exact e.2.2 _ hm _ (List.mem_cons_self) rfl
theorem sch_once (l:List Def):(schL l).length=l.length↔(defNames l).Nodup:=by
  have:=schGo_once l [] (by simp)
  simpa[schL] using this
theorem once_iff {ns:List ByteArray}:onceB ns=true↔(∀ s∈ns,nameB s=true)∧ns.Nodup:=by
  unfold onceB
  rw[allTo_iff]
  unfold List.Nodup
  rw[List.pairwise_iff_getElem]
  constructor
  · intro h
    have h1:∀ j,(hj:j<ns.length)→nameB ns[j]=true∧∀ k,(hk:k<j)→ns[k]≠ns[j]:=fun j hj=>by
      have:=h j hj
      unfold onceP at this
      rw[Bool.and_eq_true,allTo_iff, ← nm_at hj] at this
      refine⟨this.1,fun k hk e=>?_⟩
      have h2:=this.2 k hk
      rw[← nm_at (show k<ns.length by omega)] at h2
      simp[e] at h2
    refine⟨fun s hs=>?_,fun i j hi hj hij=>(h1 j hj).2 i hij⟩
    obtain⟨j,hj,rfl⟩:=List.getElem_of_mem hs
    exact (h1 j hj).1
  · rintro ⟨h1,h2⟩ j hj
    unfold onceP
    rw[Bool.and_eq_true,allTo_iff, ← nm_at hj]
    refine⟨h1 _ (List.getElem_mem hj),fun k hk=>?_⟩
    rw[← nm_at (show k<ns.length by omega)]
    simpa using h2 k j (by omega) hj hk
theorem once_eq (h:∀ d∈l,defB d=true):onceB (defNames l)=true↔(schL l).length=l.length:=by
  rw[sch_once,once_iff]
  exact⟨fun k=>k.2,fun k=>⟨fun s hs=>by
    obtain⟨d,hd,rfl⟩:=List.mem_map.1 hs
    exact (form_name h d hd).1,k⟩⟩
theorem any_filterMap {α β:Type} (f:α→Option β) (p:β→Bool) (l:List α):(l.filterMap f).any p=l.any fun x=>match f x with | some y=>p y | none=>false:=by
  induction l with
  | nil=>rfl
  | cons x r ih =>
    rw[List.filterMap_cons]
    cases hx:f x with
    | none=>simp[hx,ih]
    | some y=>simp[hx,ih]
theorem round_steps_eq (h:∀ d∈l,defB d=true):∀ (m:Nat) (s:ByteArray),roundZ l m s=stepsB (nextN l) (fun s=>decide (kindL l s=3)) m s
  | 0,s=>rfl
  | m+1,s=>by
    rw[roundZ,stepsB]
    by_cases k3:kindL l s=3
    · refine congrArg _ ?_
      have hm:=defL_mem (l:=l) (t:=s) (by omega)
      have hty:=fld_of (h _ hm)
      rw[nextN,if_pos k3,any_filterMap]
      refine any_congr fun f hf=>?_
      rw[round_steps_eq h m]
      have hty:=(hty f hf).1
      unfold fldNext
      cases hr:isReq f.ty with
      | false=>simp
      | true =>
        by_cases kn:kindL l (tyName f.ty)=3
        · rw[if_pos ⟨rfl,kn⟩]
          have hnm:nameB (tyName f.ty)=true:=by
            obtain⟨d,hd,e⟩:=List.mem_map.1 (kind_name (l:=l) (s:=tyName f.ty) (by omega))
            rw[← e];exact (form_name h d hd).1
          have hof:(ofN f.ty).length=0:=by
            cases hq:f.ty with
            | mk t lt b =>
            rw[hq] at hty hnm
            unfold typB at hty
            have hne:t≠noS:=fun e=>by
              have:nameB t=true:=hnm
              rw[e,nameB_no] at this;cases this
            rw[if_neg hne,Bool.and_eq_true] at hty
            exact of_decide_eq_true hty.2
          simp[hof]
        · rw[if_neg (fun e=>kn e.2)]
          have:stepsB (nextN l) (fun s=>decide (kindL l s=3)) m (tyName f.ty)=false:=by
            cases hs:stepsB (nextN l) (fun s=>decide (kindL l s=3)) m (tyName f.ty) with
            | false=>rfl
            | true=>exact absurd (of_decide_eq_true (steps_ok hs)) kn
          simp[this]
    · rw[decide_eq_false k3];rfl
theorem rounds_eq (h:∀ d∈l,defB d=true):roundP l=roundB l:=by
  have hlen:(defNames l).length=l.length:=by simp
  have hB:roundB l=true↔∃ y∈defNames l,Far (nextN l) y y:=by
    unfold roundB
    rw[List.any_eq_true]
    constructor
    · rintro ⟨d,hd,hm⟩
      have:=(needs_self (nx:=nextN l) (U:=defNames l) next_name d.name).1 (by rw[hlen];exact hm)
      exact⟨d.name,List.mem_map.2 ⟨d,hd,rfl⟩,this⟩
    · rintro ⟨y,hy,hf⟩
      obtain⟨d,hd,rfl⟩:=List.mem_map.1 hy
      have:=(needs_self (nx:=nextN l) (U:=defNames l) next_name d.name).2 hf
      rw[hlen] at this
      exact⟨d,hd,this⟩
  have hP:roundP l=true↔∃ y∈defNames l,Far (nextN l) y y:=by
    unfold roundP
    rw[List.any_eq_true]
    constructor
    · rintro ⟨d,hd,hm⟩
      simp only[round_steps_eq h] at hm
      exact steps_round (fun y hy=>kind_name (by rw[of_decide_eq_true hy];decide)) (l.length+1) d.name [] hm (by simp) (by simp) (by simp)
    · rintro ⟨y,hy,hf⟩
      obtain⟨d,hd,rfl⟩:=List.mem_map.1 hy
      refine⟨d,hd,?_⟩
      simp only[round_steps_eq h]
      exact round_steps (fun x y hxy=>decide_eq_true (next_kind hxy).1) hf _ _ hf
  rw[Bool.eq_iff_iff,hP,hB]
theorem check_eq (l:List Def):checkP l=checkB l:=by
  unfold checkP checkB
  by_cases h:¬ (l.all defB)=true
  · rw[if_pos h,if_pos h];split<;>rfl
  · rw[if_neg h,if_neg h]
    have hd:∀ d∈l,defB d=true:=List.all_eq_true.1 (by simpa using h)
    unfold checkQ checkS
    by_cases h10:10<l.length
    · rw[if_pos h10,if_pos h10]
    rw[if_neg h10,if_neg h10]
    by_cases ho:onceB (defNames l)=true
    · have hs:=(once_eq hd).1 ho
      rw[if_neg (show ¬ ¬ onceB (defNames l)=true from fun e=>e ho),if_neg (show ¬ ¬ (schL l).length=l.length from fun e=>e hs),names_eq hd,roots_eq hd,rounds_eq hd]
      by_cases a1:(l.all (defHere l))=true
      · by_cases a2:(l.all (defPlaced l))=true
        · simp only[a1,a2]
          cases rootsB l<;>simp
        · simp[a1,a2]
      · simp[a1]
    · have hs:=fun e=>ho ((once_eq hd).2 e)
      rw[if_pos ho,if_pos hs]
end
variable {gl:Nat→Option D}
theorem p_spCheck (l:List Def) (hl:l.length≤1048576) (hsm:∀ d∈l,DefSm d):PCall Tryz.prog gl 17 [defsD l] (dI (checkB l)):=by
  rw[← check_eq];exact p_spSchemaCheck l hl hsm
theorem p_imCheck (l:List Def) (hl:l.length≤1048576) (hsm:∀ d∈l,DefSm d):PCall Tryz.prog gl 16 [defsD l] (dI (checkB l)):=p_SchemaCheck l (by omega) fun d hd=>def_ok (hsm d hd)
end Go.Proofs.YtbmoiajdknejnaaGreat
namespace Go.Proofs.YtbmoiajdknejnaaGreat
open Go.Sh
def addW (w:ByteArray) (d:Def):Def:={ d with words:=d.words++[w] }
def moreG (nm w:ByteArray) (l:List Def):Nat→List Def→List Def×Bool
  | 0,_=>(l,false)
  | n+1,ds =>
    if h:ds.length - (n+1)<ds.length then
      if ds[ds.length - (n+1)].name=nm then
        if ds[ds.length - (n+1)].kind=2 then
          if checkB (ds.set (ds.length - (n+1)) (addW w ds[ds.length - (n+1)]))=0 then (ds.set (ds.length - (n+1)) (addW w ds[ds.length - (n+1)]),true)
          else moreG nm w l n (ds.set (ds.length - (n+1)) (addW w ds[ds.length - (n+1)]))
        else moreG nm w l n (ds.set (ds.length - (n+1)) (addW w ds[ds.length - (n+1)]))
      else moreG nm w l n ds
    else (l,false)
theorem moreG_at {nm w:ByteArray}{l ds:List Def}{i:Nat} (hi:i<ds.length):moreG nm w l (ds.length - i) ds =
    if ds[i].name=nm then
      if ds[i].kind=2 then
        if checkB (ds.set i (addW w ds[i]))=0 then (ds.set i (addW w ds[i]),true) else moreG nm w l (ds.length - (i+1)) (ds.set i (addW w ds[i]))
      else moreG nm w l (ds.length - (i+1)) (ds.set i (addW w ds[i]))
    else moreG nm w l (ds.length - (i+1)) ds:=by
  obtain⟨n,hn⟩:∃ n,ds.length - i=n+1:=⟨ds.length - i - 1,by omega⟩
  have e:ds.length - (n+1)=i:=by omega
  have e2:ds.length - (i+1)=n:=by omega
  rw[hn,e2,moreG]
  simp only[e]
  rw[dif_pos hi]
theorem moreG_end {nm w:ByteArray}{l ds:List Def}:moreG nm w l (ds.length - ds.length) ds=(l,false):=by rw[Nat.sub_self];rfl
theorem moreG_none {nm w:ByteArray}{l:List Def}:∀ (n:Nat) (ds:List Def),n≤ds.length→(∀ j (h:j<ds.length),ds.length - n≤j→ds[j].name≠nm)→moreG nm w l n ds=(l,false)
  | 0,ds,_,_=>rfl
  | n+1,ds,hn,h=>by
    rw[moreG,dif_pos (by omega),if_neg (h _ (by omega) (Nat.le_refl _))]
    exact moreG_none n ds (by omega) fun j hj hle=>h j hj (by omega)
def wordS (nm w:ByteArray) (l:List Def):List Def×Bool :=
  match atD l nm with
  | none=>(l,false)
  | some k=>if h:k<l.length then
      if l[k].kind=2 then if checkB (l.set k (addW w l[k]))=0 then (l.set k (addW w l[k]),true) else (l,false) else (l,false)
    else (l,false)
theorem names_set (w:ByteArray) (l:List Def) (k:Nat) (h:k<l.length):∀ j (hj:j<(l.set k (addW w l[k])).length),(l.set k (addW w l[k]))[j].name=(l[j]'(by simpa using hj)).name:=fun j hj=>by
  by_cases e:k=j
  · subst e;simp[addW]
  · simp[List.getElem_set,e]
theorem names_ne {l:List Def} (hd:(defNames l).Nodup) {i j:Nat} (hi:i<l.length) (hj:j<l.length) (h:l[i].name=l[j].name):i=j:=by
  have hi':i<(defNames l).length:=by simpa[defNames] using hi
  have hj':j<(defNames l).length:=by simpa[defNames] using hj
  exact nodup_inj hd hi' hj' (by simpa[defNames] using h)
theorem more_word {nm w:ByteArray}{l:List Def} (hd:(defNames l).Nodup):∀ i,i≤l.length→(∀ j (h:j<l.length),j<i→l[j].name≠nm)→moreG nm w l (l.length - i) l=wordS nm w l:=by
  intro i hi hb
  induction hk:l.length - i generalizing i with
  | zero =>
    have:atD l nm=none:=atD_none_iff.2 (by
      intro hm
      simp only[defNames,List.mem_map] at hm
      obtain⟨d,hd,e⟩:=hm
      obtain⟨j,hj,rfl⟩:=List.getElem_of_mem hd
      exact hb j hj (by omega) e)
    rw[wordS,this];rfl
  | succ n ih =>
    have hi2:i<l.length:=by omega
    rw[← hk,moreG_at hi2]
    split
    · rename_i hnm
      have ha:atD l nm=some i:=by
        unfold atD
        rw[List.findIdx?_eq_some_iff_getElem]
        exact⟨hi2,by simpa using hnm,fun j hj=>by simpa using hb j _ hj⟩
      have hrest:moreG nm w l (l.length - (i+1)) (l.set i (addW w l[i]))=(l,false):=moreG_none _ _ (by simp) fun j hj hle=>by
        rw[names_set w l i hi2 j hj]
        simp only[List.length_set] at hj hle
        intro e
        have:=names_ne hd hj hi2 (e.trans hnm.symm)
        omega
      rw[wordS,ha]
      simp only[dif_pos hi2,hrest]
    · rename_i hnm
      have:=ih (i+1) (by omega) (fun j hj hlt=>by
        by_cases e:j=i
        · subst e;exact hnm
        · exact hb j hj (by omega)) (by omega)
      rw[← this]
      congr 1
      omega
theorem check_once {l:List Def} (h:checkB l=0):(defNames l).Nodup∧l.length≤10∧∀ d∈l,defB d=true:=by
  unfold checkB at h
  split at h
  · cases h
  · rename_i h1
    split at h
    · cases h
    · rename_i h2
      unfold checkS at h
      split at h
      · cases h
      · rename_i h3
        exact⟨(sch_once l).1 (Classical.not_not.1 h3),by omega,by simpa using h2⟩
theorem more_eq {nm w:ByteArray}{l:List Def} (h:checkB l=0):moreG nm w l l.length l=wordS nm w l:=by
  have:=more_word (nm:=nm) (w:=w) (check_once h).1 0 (by omega) (fun j _ hj=>by omega)
  simpa using this
end Go.Proofs.YtbmoiajdknejnaaGreat
namespace Go.Sh
mutual
def SV.fg:SV→SV
  | .sk b n _=>.os b 0 n
  | .ag cs=>.ag (fgS cs)
  | .tu cs=>.tu (fgS cs)
  | s=>s
def fgS:List SV→List SV
  | []=>[]
  | s::r=>SV.fg s::fgS r
end
theorem fgS_eq:∀ cs:List SV,fgS cs=cs.map SV.fg
  | []=>rfl
  | s::r=>by rw[fgS,fgS_eq r];rfl
theorem fg_cell (s:SV):s.fg.cell=s.cell:=by cases s<;>rfl
theorem VR.fg {G:Gh}{w:World}{s:SV}{u:Value} (h:VR G w s u):VR G w s.fg u:=by
  induction h with
  | sk h hn hb hr=>exact .os h hn
  | ag hl hk hv ih=>simp only[SV.fg,fgS_eq];exact .ag (by simpa using hl) (fun j hj=>by simp only[List.getElem_map,fg_cell];exact hk j (by simpa using hj)) (fun j hj hj'=>by simp only[List.getElem_map];exact ih j (by simpa using hj) hj')
  | tu hl hv ih=>simp only[SV.fg,fgS_eq];exact .tu (by simpa using hl) (fun j hj hj'=>by simp only[List.getElem_map];exact ih j (by simpa using hj) hj')
  | d h=>exact .d h
  | fl h hc=>exact .fl h hc
  | tp h ht hn he=>exact .tp h ht hn he
  | op h=>exact .op h
  | os h hn=>exact .os h hn
  | ls us hn hc hk hv ih=>exact .ls us hn hc hk hv
  | fc h ih=>exact .fc h
  | fn hl hm hv hu ih1 ih2=>exact .fn hl hm hv hu
  | mv h=>exact .mv h
  | iv h=>exact .iv h
theorem FCall.fg {P:Program}{gl:Nat→Option D}{f:FuncId}{ds:List D}{r:SV}{K:Nat}{B:Nat→Option (List SV)} (h:FCall P gl f ds r K B):FCall P gl f ds r.fg K (fun b=>(B b).map (·.map SV.fg)):=by
  refine⟨h.1,fun m w vals h1 h2 h3 h4=>(h.2 m w vals h1 h2 h3 h4).mono ?_⟩
  rintro e w' ⟨u,Bx,he,hv,hK,hB,hi,hb⟩
  refine⟨u,Bx,he,hv.fg,hK,fun b cs hcs=>?_,fun b b' X k1 k2=>hi b b' X (fun e=>k1 (by simp[e])) (fun e=>k2 (by simp[e])),hb⟩
  simp only[Option.map_eq_some_iff] at hcs
  obtain⟨cs0,hb0,rfl⟩:=hcs
  obtain⟨X,us,T,g1,g2,g3,g4,g5,g6⟩:=hB b cs0 hb0
  refine⟨X,us,T,g1,g2,by simpa using g3,g4,g5,fun j hj hj'=>?_⟩
  simp only[List.getElem_map,fg_cell]
  exact⟨(g6 j (by simpa using hj) hj').1,(g6 j (by simpa using hj) hj').2.fg⟩
end Go.Sh
namespace Go.Proofs.YtbmoiajdknejnaaGreat
open Go.Sh
variable {gl:Nat→Option D}
mutual
def Sk.flat:Sk→Sk
  | .d v=>.d v
  | .nil=>.nil
  | .row _ n cs=>.row none n (flatS cs)
def flatS:List Sk→List Sk
  | []=>[]
  | x::r=>x.flat::flatS r
end
theorem flatS_app:∀ a b:List Sk,flatS (a++b)=flatS a++flatS b
  | [],b=>by simp[flatS]
  | x::r,b=>by simp[flatS,flatS_app r b]
mutual
theorem flat_cnt:∀ x:Sk,x.flat.cnt=x.cnt
  | .d v=>by simp[Sk.flat]
  | .nil=>by simp[Sk.flat]
  | .row z n cs=>by simp[Sk.flat,Sk.cnt,flatS_cnt cs]
theorem flatS_cnt:∀ cs:List Sk,cntL (flatS cs)=cntL cs
  | []=>by simp[flatS]
  | x::r=>by simp[flatS,cntL,flat_cnt x,flatS_cnt r]
end
theorem flat_sv (k:Nat) (x:Sk):(x.flat.can k).sv=(x.can k).sv.fg:=by
  cases x with
  | d v=>simp[Sk.flat,Sk.can,SV.fg]
  | nil=>simp[Sk.flat,Sk.can,SV.fg]
  | row z n cs=>cases z<;>simp[Sk.flat,Sk.can,SV.fg]
theorem flatS_svs:∀ (k:Nat) (cs:List Sk),svs (canL k (flatS cs))=(svs (canL k cs)).map SV.fg
  | k,[]=>by simp[flatS,canL]
  | k,x::r=>by simp[flatS,canL,flat_sv,flat_cnt,flatS_svs (k+x.cnt) r]
abbrev fgV (p:Nat×List SV):Nat×List SV:=(p.1,p.2.map SV.fg)
mutual
theorem flat_vars:∀ (k:Nat) (x:Sk),(x.flat.can k).vars=(x.can k).vars.map fgV
  | k, .d v=>by simp[Sk.flat,Sk.can,Ld.vars]
  | k, .nil=>by simp[Sk.flat,Sk.can,Ld.vars]
  | k, .row z n cs=>by
    simp only[Sk.flat,Sk.can,Ld.vars,List.map_cons,flatS_svs (k+1) cs,flatS_vars (k+1) cs]
theorem flatS_vars:∀ (k:Nat) (cs:List Sk),varsL (canL k (flatS cs))=(varsL (canL k cs)).map fgV
  | k,[]=>by simp[flatS,canL,varsL]
  | k,x::r=>by
    simp only[flatS,canL,varsL,List.map_append,flat_vars k x,flat_cnt,flatS_vars (k+x.cnt) r]
end
theorem lookN_map {V:List (Nat×List SV)} (x:Nat):lookN (V.map fgV) x=(lookN V x).map (·.map SV.fg):=by
  induction V with
  | nil=>rfl
  | cons p V ih =>
    have e:∀ (q:Nat×List SV) (L:List (Nat×List SV)),lookN (q::L) x=if x=q.1 then some q.2 else lookN L x:=fun _ _=>rfl
    rw[List.map_cons,e,e,ih]
    split<;>rfl
theorem newL_flat (cs:List Sk):newL (flatS cs)=fun b=>(newL cs b).map (·.map SV.fg):=by
  funext b
  show lookN (varsL (canL 0 (flatS cs))) b=_
  rw[flatS_vars,lookN_map]
theorem fcall_flat {f:Nat}{ds:List D}{r:SV}{cs:List Sk} (h:FCall Tryz.prog gl f ds r (cntL cs) (newL cs)):FCall Tryz.prog gl f ds r.fg (cntL (flatS cs)) (newL (flatS cs)):=by
  rw[flatS_cnt,newL_flat];exact h.fg
def skZ (z n:Nat) (cs:List Sk):Sk:=if n=0 then .nil else .row (some z) n cs
theorem skZ_pos {z n:Nat}{cs:List Sk} (h:n≠0):skZ z n cs=.row (some z) n cs:=if_neg h
@[simp] theorem skZ_zero (z:Nat) (cs:List Sk):skZ z 0 cs=.nil:=if_pos rfl
theorem skZ_cases (z n:Nat) (cs:List Sk):skZ z n cs=.nil∨skZ z n cs=.row (some z) n cs:=by unfold skZ;split<;>simp
@[simp] theorem skZ_one (z n k:Nat) (cs:List Sk):((skZ z n cs).can k).sv.one=true:=by rcases skZ_cases z n cs with h | h<;>rw[h]<;>rfl
@[simp] theorem skZ_cells (z n k:Nat) (cs:List Sk):((skZ z n cs).can k).sv.cells=[((skZ z n cs).can k).sv]:=by rcases skZ_cases z n cs with h | h<;>rw[h]<;>rfl
theorem skZ_data {z n:Nat}{cs:List Sk} (h:n=0→cs=[]):(skZ z n cs).data=.ps (dataL cs) n:=by
  unfold skZ
  split
  · rename_i h1;subst h1;rw[h rfl];rfl
  · rfl
theorem skZ_flat {z n:Nat}{cs:List Sk}:(skZ z n cs).flat=skR false n (flatS cs):=by
  unfold skZ skR
  by_cases h:n=0
  · rw[if_pos h,if_pos ⟨h,rfl⟩];rfl
  · rw[if_neg h,if_neg (fun hh=>h hh.1)];rfl
abbrev txK (ns:List ByteArray):List Sk:=ns.map fun s=>.d (.string s)
def skT (ns:List ByteArray):Sk:=skZ 1 ns.length (txK ns)
@[simp] theorem skT_one (k:Nat) (l:List ByteArray):((skT l).can k).sv.one=true:=skZ_one _ _ _ _
@[simp] theorem skT_cells (k:Nat) (l:List ByteArray):((skT l).can k).sv.cells=[((skT l).can k).sv]:=skZ_cells _ _ _ _
theorem txK_flat:∀ ns:List ByteArray,flatS (txK ns)=txK ns
  | []=>rfl
  | s::r=>by
    have:=txK_flat r
    simp only[List.map_cons,flatS,Sk.flat]
    rw[this]
theorem txK_data:∀ ns:List ByteArray,dataL (txK ns)=ns.map dS
  | []=>rfl
  | s::r=>by
    have:=txK_data r
    simp only[List.map_cons,dataL,Sk.data]
    rw[this]
theorem skT_data (ns:List ByteArray):(skT ns).data=namesD ns:=by
  unfold skT
  rw[skZ_data (fun h=>by rw[List.eq_nil_of_length_eq_zero h];rfl),txK_data]
theorem skT_flat (ns:List ByteArray):(skT ns).flat=skS false ns:=by
  unfold skT skS
  rw[skZ_flat,txK_flat]
mutual
def Val.sz:Val→List Sk
  | .mk k n t l ns=>[.d (.int .i64 k), .d (.int .i64 n), .d (.string t),skZ 5 l.length (valsZ l),skT ns]
def valsZ:List Val→List Sk
  | []=>[]
  | v::r=>v.sz++valsZ r
end
@[simp] theorem sz_len (v:Val):v.sz.length=5:=by cases v;rfl
theorem valsZ_app:∀ a b:List Val,valsZ (a++b)=valsZ a++valsZ b
  | [],b=>rfl
  | x::r,b=>by simp[valsZ,valsZ_app r b]
theorem valsZ_len:∀ l:List Val,(valsZ l).length=l.length*5
  | []=>rfl
  | x::r=>by simp[valsZ,valsZ_len r];omega
mutual
theorem sz_data:∀ v:Val,dataL v.sz=v.cells
  | .mk k n t l ns=>by
    have:(skZ 5 l.length (valsZ l)).data=valsD l:=by
      rw[skZ_data (fun h=>by rw[List.eq_nil_of_length_eq_zero h];rfl),valsZ_data l]
    simp[Val.sz,dataL,Sk.data,Val.cells,skT_data,this]
theorem valsZ_data:∀ l:List Val,dataL (valsZ l)=valsCells l
  | []=>rfl
  | v::r=>by simp[valsZ,dataL_app,valsCells,sz_data v,valsZ_data r]
end
mutual
theorem sz_flat:∀ v:Val,flatS v.sz=v.sk false
  | .mk k n t l ns=>by
    simp only[Val.sz,Val.sk,flatS,Sk.flat,skZ_flat,skT_flat,valsZ_flat l]
theorem valsZ_flat:∀ l:List Val,flatS (valsZ l)=valsSk false l
  | []=>rfl
  | v::r=>by simp[valsZ,valsSk,flatS_app,sz_flat v,valsZ_flat r]
end
abbrev valZ (gl:Nat→Option D) (f:Nat) (ds:List D) (v:Val):Prop:=FCall Tryz.prog gl f ds (.ag (svs (canL 0 v.sz))) (cntL v.sz) (newL v.sz)
theorem ld_z {z n:Nat}{sk:List Sk}{X:Ld} (h:X.sh=skZ z n sk):(X=.nil∧n=0)∨∃ b cs,X=.row (some z) b n cs∧shs cs=sk∧n≠0:=by
  unfold skZ at h
  split at h
  · rename_i hn
    cases X with
    | nil=>exact .inl ⟨rfl,hn⟩
    | d v=>simp[Ld.sh] at h
    | row z b m cs=>simp[Ld.sh] at h
  · rename_i hn
    cases X with
    | nil=>simp[Ld.sh] at h
    | d v=>simp[Ld.sh] at h
    | row z b m cs =>
      simp only[Ld.sh,Sk.row.injEq] at h
      obtain⟨rfl,rfl,h3⟩:=h
      exact .inr ⟨b,cs,rfl,h3,hn⟩
theorem z_one {z n:Nat}{sk:List Sk}{X:Ld} (h:X.sh=skZ z n sk):X.sv.one=true∧X.sv.cells=[X.sv]∧X.sv.cell=true:=by
  rcases ld_z h with ⟨rfl,_⟩ | ⟨b,cs,rfl,_⟩<;>exact⟨rfl,rfl,rfl⟩
theorem row_sh {z b n:Nat}{cs:List Ld}{sk:List Sk} (h:shs cs=sk) (hn:n≠0):(Ld.row (some z) b n cs).sh=skZ z n sk:=by
  rw[skZ_pos hn, ← h];rfl
theorem At.grow {S S':St}{lo hi lo2 hi' b q n m:Nat}{z z':Option Nat}{cs X:List Ld} (ha:At S lo hi [.row z b n cs]) (hX:At S' lo2 hi' X) (hq:S'.B q=some (svs (cs++X))) (ho:∀ x,lo≤x→x<hi→x≠b→S'.B x=S.B x)
    (h1:hi≤lo2) (h2:hi≤hi') (h3:lo≤q) (h4:q<hi') (h5:∀ p∈varsL X,p.1≠q) (h6:hi≤q):At S' lo hi' [.row z' q m (cs++X)]:=by
  have hr:=ha.rng
  have hn:=ha.nodup
  have hh:=ha.has
  simp only[varsL,Ld.vars,List.append_nil,List.map_cons,List.nodup_cons,List.forall_mem_cons] at hr hn hh
  have hc:At S' lo hi cs:=⟨fun p hp=>by
    rw[ho p.1 (hr.2 p hp).1 (hr.2 p hp).2 (fun e=>hn.1 (List.mem_map.2 ⟨p,hp,e⟩))];exact hh.2 p hp,hn.2,hr.2⟩
  have hlo:lo≤lo2:=by have:=hr.1;omega
  refine .row hq h3 h4 ⟨fun p hp=>?_,?_,fun p hp=>?_⟩ (fun p hp=>?_)
  · rw[varsL_app] at hp
    rcases List.mem_append.1 hp with hp | hp
    · exact hc.has p hp
    · exact hX.has p hp
  · rw[varsL_app,List.map_append]
    refine List.nodup_append.2 ⟨hc.nodup,hX.nodup,fun x hx y hy e=>?_⟩
    obtain⟨p,hp,rfl⟩:=List.mem_map.1 hx
    obtain⟨p',hp',rfl⟩:=List.mem_map.1 hy
    have:=hc.rng p hp
    have:=hX.rng p' hp'
    omega
  · rw[varsL_app] at hp
    rcases List.mem_append.1 hp with hp | hp
    · have:=hc.rng p hp;omega
    · have:=hX.rng p hp;omega
  · rw[varsL_app] at hp
    rcases List.mem_append.1 hp with hp | hp
    · have:=hc.rng p hp;omega
    · exact h5 p hp
theorem valsZ_next (l:List Val) {i:Nat} (h:i<l.length):valsZ (l.take (i+1))=valsZ (l.take i)++l[i].sz:=by
  rw[List.take_succ_eq_append_getElem h,valsZ_app];simp[valsZ]
theorem txK_next (l:List ByteArray) {i:Nat} (h:i<l.length):txK (l.take (i+1))=txK (l.take i)++[.d (.string l[i])]:=by
  simp only[txK,List.take_succ_eq_append_getElem h,List.map_append];rfl
set_option maxHeartbeats 4000000 in
theorem g_l1Copy (v:Val) (hv:Small v):valZ gl 262 [v.d] v:=by
  match v,hv with
  | .mk k n t l ns, .mk ht hn hns hl hwf =>
    have ih:∀ i (hi:i<l.length),valZ gl 262 [l[i].d] l[i]:=fun i hi =>
      have:=List.sizeOf_lt_of_mem (List.getElem_mem hi)
      g_l1Copy l[i] (hwf _ (List.getElem_mem hi))
    refine FCall.by_ (md:=[1000028,1000029,1000045,1000046]) Tryz.func262 rfl (by kernel_rfl) (n:=49) Tryz.ntmps262 (by simp) (by decide) rfl ?_
    simp[Val.cells]
    refine LoopT.round (fun E S=>∃ (i:Nat) (x:Ld),(i≤l.length)∧E 1=some (.op 0 0)∧E 2=some (.op 1 0)∧E 3=some (.op 9 0)∧E 4=some (.d (dI i))∧S.B 0=some ([.d (dI k), .d (dI n), .d (dS t), .d (valsD l), .d (namesD ns)])∧S.B 1=some (zV)∧S.B 9=some ([.d (dI k), .d (dI n), .d (dS t),x.sv, .fl [] 0])∧(x.sh=skZ 5 i (valsZ (l.take i)))∧(At S 10 S.nx [x])∧(10≤S.nx)) (upTo 4 l.length) ⟨0, .nil,by simp;exact⟨rfl, .cons_nil .nil⟩⟩ ?_
    rintro E S hk ⟨i,x,hi,h1,h2,h3,h4,hB0,hB1,hB9,hX,ha,hx⟩
    have hn:S.n=49:=by first | (simpa using hk.n)|(have hh:=hk.n;simp at hh;exact hh)
    have hg:S.gl=gl:=by first | (simpa using hk.gl)|(have hh:=hk.gl;simp at hh;exact hh)
    have hmd:S.md=[1000028,1000029,1000045,1000046]:=by first | (simpa using hk.md)|(have hh:=hk.md;simp at hh;exact hh)
    simp[h1,h2,h3,h4,hB0,hB1,hB9,hn,hg,hmd]
    have w:=wrap64 (n:=(i:Int)+1) (by omega) (by omega)
    refine BrT.dec (fun c=>?_) (fun c=>?_)
    · have hi2:i<l.length:=by omega
      have hlen:=valsCells_len l
      have hfit:i*5+5≤l.length*5:=by omega
      obtain⟨o1,o2,o3⟩:=z_one hX
      simp[h1,h2,h3,h4,hB0,hB1,hB9,hn,hg,hmd,c,hi2,w,hlen,hfit,valsCells_at,cells_len,o1,o2]
      refine⟨DrawT.mk (by kernel_rfl),?_⟩
      refine CallT.o (n:=40) [((1,3),7)] (ih i hi2) (by first | rfl | (simp;done)|(simp[h1,h2,h3,h4,hB0,hB1,hB9,hn,hg,hmd,c,hi2,w,hlen,hfit,valsCells_at,cells_len,o1,o2];done)) (by kernel_rfl) (by kernel_rfl) (by first | (simp[Eh.e];done)|(simp[h1,h2,h3,h4,hB0,hB1,hB9,hn,hg,hmd,c,hi2,w,hlen,hfit,valsCells_at,cells_len,o1,o2,Eh.e];done)|(simp[h1,h2,h3,h4,hB0,hB1,hB9,hn,hg,hmd,c,hi2,w,hlen,hfit,valsCells_at,cells_len,o1,o2,Eh.e];omega)) (by first | (simp[Ar.a];done)|(simp[Ar.a];omega)) (fun B' hB'=>by first | rfl | (simp;done)|(simp[hB'];done)|(simp[h1,h2,h3,h4,hB0,hB1,hB9,hn,hg,hmd,c,hi2,w,hlen,hfit,valsCells_at,cells_len,o1,o2,hB'];done)) ?_
      simp[h1,h2,h3,h4,hB0,hB1,hB9,hn,hg,hmd,c,hi2,w,hlen,hfit,valsCells_at,cells_len,o1,o2]
      have hvn:=valsZ_next l hi2
      obtain⟨q,hq⟩:∃ q,S.nx+5+12=q:=⟨_,rfl⟩
      have hcl:∀ m,(svs (canL m l[i].sz)).length=5:=fun m=>by simp
      rcases ld_z hX with ⟨rfl,h0⟩ | ⟨b,cs,rfl,hsc,hpos⟩
      · simp[h1,h2,h3,h4,hB0,hB1,hB9,hn,hg,hmd,c,hi2,w,hlen,hfit,valsCells_at,cells_len,o1,o2]
        refine⟨by unfold appBound;omega,⟨i+1,hi2,by omega, .row (some 5) (S.nx+5+9) 1 (canL (S.nx+5+12) l[i].sz),rfl,?_,?_,by omega⟩,upTo_lt h4 (by simp) hi2⟩
        · subst h0
          exact row_sh (by rw[canL_shs,hvn];simp[valsZ]) (by omega)
        · refine .row (by simp) (by omega) (by omega) ((At.new fun b h1 h2=>by ((try simp);(repeat first | rw[if_neg (by omega)] | rw[if_pos (by omega)]);(try (intro h;exfalso;omega)))).le (by omega) (by omega)) (fun p hp=>by have:=canL_rng hp;omega)
      · have hb:=ha.rng (b,svs cs) (by simp[varsL,Ld.vars])
        have hBb:=ha.has (b,svs cs) (by simp[varsL,Ld.vars])
        have hA:(svs cs).length=i*5:=by rw[svs_len, ← shs_len,hsc,valsZ_len,List.length_take];congr 1;omega
        simp only at hb hBb
        have hlt:b<S.nx+5+12:=by omega
        have htk:List.take (i*5) (svs cs)=svs cs:=List.take_of_length_le (by omega)
        have nb:∀ k,k<10→¬ k=b:=fun k hk=>by omega
        have nb2:∀ k,k<10→¬ b=k:=fun k hk=>by omega
        simp[h1,h2,h3,h4,hB0,hB1,hB9,hn,hg,hmd,c,hi2,w,hlen,hfit,valsCells_at,cells_len,o1,o2,hBb,hA,hlt,htk,nb,nb2]
        refine⟨by unfold appBound;omega,⟨i+1,hi2,by omega, .row (some 5) (S.nx+5+9) (i+1) (cs++canL (S.nx+5+12) l[i].sz),rfl,?_,?_,by omega⟩,upTo_lt h4 (by simp) hi2⟩
        · exact row_sh (by rw[shs_app,canL_shs,hvn,hsc]) (by omega)
        · refine ha.grow (lo2:=S.nx+5+12) ((At.new ?_).le (by omega) (by omega)) (by simp) ?_ (by omega) (by omega) (by omega) (by omega) (fun p hp=>by have:=canL_rng hp;omega) (by omega)
          · intro b h1 h2;((try simp);(repeat first | rw[if_neg (by omega)] | rw[if_pos (by omega)]);(try (intro h;exfalso;omega)))
          · intro x h1 h2 h3;((try simp);(repeat first | rw[if_neg (by omega)] | rw[if_pos (by omega)]);(try (intro h;exfalso;omega)))
    · have hi3:i=l.length:=by omega
      subst hi3
      rw[List.take_length] at hX
      obtain⟨M,hM⟩:∃ M,S.nx=M:=⟨_,rfl⟩
      obtain⟨o1,o2,o3⟩:=z_one hX
      simp[h1,h2,h3,h4,hB0,hB1,hB9,hn,hg,hmd,c]
      refine LoopT.round (fun E S=>∃ (i:Nat) (y:Ld),(i≤ns.length)∧E 1=some (.op 0 0)∧E 2=some (.op 1 0)∧E 3=some (.op 9 0)∧E 5=some (.d (dI i))∧S.B 0=some ([.d (dI k), .d (dI n), .d (dS t), .d (valsD l), .d (namesD ns)])∧S.B 1=some (zV)∧S.B 9=some ([.d (dI k), .d (dI n), .d (dS t),x.sv,y.sv])∧(At S 10 M [x])∧(y.sh=skT (ns.take i))∧(At S M S.nx [y])∧(M≤S.nx)) (upTo 5 ns.length) ⟨0, .nil,by simp[h1,h2,h3,h4,hB0,hB1,hB9,hn,hg,hmd,c];exact⟨hM▸ha.mono rfl,rfl, .cons_nil .nil,by omega⟩⟩ ?_
      rintro E S hk ⟨i,y,hi,h1,h2,h3,h5,hB0,hB1,hB9,ha,hY,hb,hx2⟩
      have hn:S.n=49:=by first | (simpa using hk.n)|(have hh:=hk.n;simp[h1,h2,h3,h4,hB0,hB1,hB9,hn,hg,hmd,c] at hh;exact hh)
      have hg:S.gl=gl:=by first | (simpa using hk.gl)|(have hh:=hk.gl;simp[h1,h2,h3,h4,hB0,hB1,hB9,hn,hg,hmd,c] at hh;exact hh)
      have hmd:S.md=[1000028,1000029,1000045,1000046]:=by first | (simpa using hk.md)|(have hh:=hk.md;simp[h1,h2,h3,h4,hB0,hB1,hB9,hn,hg,hmd,c] at hh;exact hh)
      simp[h1,h2,h3,h4,hB0,hB1,hB9,hn,hg,hmd,c,h1,h2,h3,h5,hB0,hB1,hB9,hn,hg,hmd]
      have w:=wrap64 (n:=(i:Int)+1) (by omega) (by omega)
      refine BrT.dec (fun c2=>?_) (fun c2=>?_)
      · have hi2:i<ns.length:=by omega
        have hY':y.sh=skZ 1 i (txK (ns.take i)):=by rw[hY,skT,List.length_take,Nat.min_eq_left hi]
        obtain⟨p1,p2,p3⟩:=z_one hY'
        have hvn:=txK_next ns hi2
        have hmin:min (i+1) ns.length=i+1:=by omega
        rcases ld_z hY' with ⟨rfl,h0⟩ | ⟨b,cs,rfl,hsc,hpos⟩
        · simp[h1,h2,h3,h4,hB0,hB1,hB9,hn,hg,hmd,c,h1,h2,h3,h5,hB0,hB1,hB9,hn,hg,hmd,c2,hi2,w,o1,o2,p1,p2]
          refine⟨DrawT.mk (by kernel_rfl),by unfold appBound;omega,⟨i+1,hi2,by omega, .row (some 1) (S.nx+5+8) 1 [.d (.string ns[i])],rfl,?_,?_,?_,by omega⟩,upTo_lt h5 (by simp) hi2⟩
          · exact ha.keep fun b h1 h2=>by ((try simp);(repeat first | rw[if_neg (by omega)] | rw[if_pos (by omega)]);(try (intro h;exfalso;omega)))
          · subst h0
            rw[skT,hvn,List.length_take,hmin]
            exact row_sh (by simp[shs,Ld.sh]) (by omega)
          · exact .row (by simp) (by omega) (by omega) (.cons_d .nil) (by simp[varsL,Ld.vars])
        · have hb2:=hb.rng (b,svs cs) (by simp[varsL,Ld.vars])
          have hBb:=hb.has (b,svs cs) (by simp[varsL,Ld.vars])
          have hA:(svs cs).length=i:=by rw[svs_len, ← shs_len,hsc];simp;omega
          simp only at hb2 hBb
          have hlt:b<S.nx+5+11:=by omega
          have htk:List.take i (svs cs)=svs cs:=List.take_of_length_le (by omega)
          have nb:∀ k,k<10→¬ k=b:=fun k hk=>by omega
          have nb2:∀ k,k<10→¬ b=k:=fun k hk=>by omega
          simp[h1,h2,h3,h4,hB0,hB1,hB9,hn,hg,hmd,c,h1,h2,h3,h5,hB0,hB1,hB9,hn,hg,hmd,c2,hi2,w,o1,o2,p1,p2,hBb,hA,hlt,htk,nb,nb2]
          refine⟨DrawT.mk (by kernel_rfl),by unfold appBound;omega,⟨i+1,hi2,by omega, .row (some 1) (S.nx+5+8) (i+1) (cs++[.d (.string ns[i])]),rfl,?_,?_,?_,by omega⟩,upTo_lt h5 (by simp) hi2⟩
          · exact ha.keep fun b h1 h2=>by ((try simp);(repeat first | rw[if_neg (by omega)] | rw[if_pos (by omega)]);(try (intro h;exfalso;omega)))
          · rw[skT,hvn,List.length_take,hmin]
            exact row_sh (by rw[shs_app,hsc];simp[shs,Ld.sh]) (by omega)
          · refine hb.grow (lo2:=S.nx) (.cons_d .nil) (by simp) ?_ (by omega) (by omega) (by omega) (by omega) (by simp[varsL,Ld.vars]) (by omega)
            intro x h1 h2 h3;((try simp);(repeat first | rw[if_neg (by omega)] | rw[if_pos (by omega)]);(try (intro h;exfalso;omega)))
      · have hi3:i=ns.length:=by omega
        subst hi3
        rw[List.take_length] at hY
        obtain⟨p1,p2,p3⟩:=z_one hY
        simp[h1,h2,h3,h4,hB0,hB1,hB9,hn,hg,hmd,c,h1,h2,h3,h5,hB0,hB1,hB9,hn,hg,hmd,c2,o1,o2,o3,p1,p2,p3]
        refine fin_ag (lo:=10) (hi:=S.nx) (cs:=[.d (.int .i64 k), .d (.int .i64 n), .d (.string t),x,y]) (.cons_d (.cons_d (.cons_d (.app (a:=[x]) (mid:=M) (ha.keep fun b h1 h2=>by ((try simp);(repeat first | rw[if_neg (by omega)] | rw[if_pos (by omega)]);(try (intro h;exfalso;omega)))) (hb.keep fun b h1 h2=>by ((try simp);(repeat first | rw[if_neg (by omega)] | rw[if_pos (by omega)]);(try (intro h;exfalso;omega)))) (by omega) (by omega))))) ?_ ?_
        · simp[shs,Ld.sh,Val.sz,hX,hY]
        · simp
  termination_by SizeOf.sizeOf v
  decreasing_by
  simp only[Val.mk.sizeOf_spec]
  omega
mutual
def Typ.sk (e:Bool):Typ→List Sk
  | .mk t l b=>[.d (.string t),skR e l.length (typsSk e l), .d (.bool b)]
def typsSk (e:Bool):List Typ→List Sk
  | []=>[]
  | v::r=>v.sk e++typsSk e r
end
@[simp] theorem typ_sklen (e:Bool) (v:Typ):(v.sk e).length=3:=by cases v;rfl
theorem typsSk_cons (e:Bool) (n:Typ) (r:List Typ):typsSk e (n::r)=n.sk e++typsSk e r:=by rw[typsSk]
theorem typsSk_app (e:Bool):∀ a b:List Typ,typsSk e (a++b)=typsSk e a++typsSk e b
  | [],b=>by simp[typsSk]
  | x::r,b=>by simp[typsSk,typsSk_app e r b]
theorem typsSk_len (e:Bool):∀ l:List Typ,(typsSk e l).length=l.length*3
  | []=>by simp[typsSk]
  | x::r=>by simp[typsSk,typsSk_len e r];omega
mutual
theorem typ_skdata (e:Bool):∀ v:Typ,dataL (v.sk e)=v.cells
  | .mk t l b=>by
    have:(skR e l.length (typsSk e l)).data=typsD l:=by
      rw[skR_data (fun h=>by rw[List.eq_nil_of_length_eq_zero h];simp[typsSk]),typsSk_data e l]
    simp[Typ.sk,dataL,Sk.data,Typ.cells,this]
theorem typsSk_data (e:Bool):∀ l:List Typ,dataL (typsSk e l)=typsCells l
  | []=>by simp[typsSk,dataL,typsCells]
  | v::r=>by simp[typsSk,dataL_app,typsCells,typ_skdata e v,typsSk_data e r]
end
abbrev typF (gl:Nat→Option D) (f:Nat) (e:Bool) (ds:List D) (n:Typ):Prop:=FCall Tryz.prog gl f ds (.ag (svs (canL 0 (n.sk e)))) (cntL (n.sk e)) (newL (n.sk e))
set_option maxHeartbeats 1000000 in
theorem g_toTypeS_of (l:List Typ) (hl:l.length≤1048576) (ih:∀ i (h:i<l.length),typF gl 276 true [l[i].d] l[i]):rowF1 gl 317 [typsD l] (skR true l.length (typsSk true l)):=by
  refine FCall.by_ (md:=[]) Tryz.func317 rfl (by kernel_rfl) (n:=23) Tryz.ntmps317 (by simp) (by decide) rfl ?_
  simp
  refine⟨by omega,?_⟩
  refine LoopT.round (fun E S=>∃ (i:Nat) (done:List Ld),(i≤l.length)∧E 0=some (.d (typsD l))∧E 3=some (.os 3 0 l.length)∧E 4=some (.d (dI i))∧S.B 3=some (rowC (svs done) zType (l.length - i))∧(shs done=typsSk true (l.take i))∧(At S 4 S.nx done)∧(4≤S.nx)) (upTo 4 l.length) ⟨0,[],by simp;exact⟨by simp[rowC,madeS_zType],rfl, .nil⟩⟩ ?_
  rintro E S hk ⟨i,done,hi,h0,h3,h4,hB3,hd,ha,hx⟩
  have hn:S.n=23:=by first | (simpa using hk.n)|(have hh:=hk.n;simp at hh;exact hh)
  have hg:S.gl=gl:=by first | (simpa using hk.gl)|(have hh:=hk.gl;simp at hh;exact hh)
  have hmd:S.md=[]:=by first | (simpa using hk.md)|(have hh:=hk.md;simp at hh;exact hh)
  simp[h0,h3,h4,hB3,hn,hg,hmd]
  have w:=wrap64 (n:=(i:Int)+1) (by omega) (by omega)
  have hA:(svs done).length=i*3:=by rw[svs_len, ← shs_len,hd,typsSk_len,List.length_take];congr 1;omega
  have hf:=rowC_len (k:=3) (z:=zType) rfl hA hi
  refine BrT.dec (fun c=>?_) (fun c=>?_)
  · have hi2:i<l.length:=by omega
    have hlen:=typsCells_len l
    have hfit:i*3+3≤l.length*3:=by omega
    have hnext:=fun X=>rowC_next (k:=3) (z:=zType) (X:=X) rfl hA hi2
    have htk:∀ cs:List Ld,cs.length=3→(svs cs).take 3=svs cs:=fun cs h=>List.take_of_length_le (by simp[h])
    have hcl:∀ q,(canL q (Typ.sk true l[i])).length=3:=fun q=>by rw[canL_len,typ_sklen]
    have htk2:∀ q,(svs (canL q (Typ.sk true l[i]))).take 3=svs (canL q (Typ.sk true l[i])):=fun q=>htk _ (hcl q)
    simp[h0,h3,h4,hB3,hn,hg,hmd,c,hi2,w,hf,hlen,hfit,typsCells_at,hcl,htk2]
    repeat refine⟨DrawT.mk (by kernel_rfl),?_⟩
    refine CallT.f (n:=40) (ih i hi2) (by first | rfl | (simp;done)|(simp[h0,h3,h4,hB3,hn,hg,hmd,c,hi2,w,hf,hlen,hfit,typsCells_at,hcl,htk2];done)) (by first | rfl | kernel_rfl) (by first | rfl | (simp;done)|(simp[h0,h3,h4,hB3,hn,hg,hmd,c,hi2,w,hf,hlen,hfit,typsCells_at,hcl,htk2];done)) ?_
    simp[h0,h3,h4,hB3,hn,hg,hmd,c,hi2,w,hf,hlen,hfit,typsCells_at,hcl,htk2]
    refine⟨⟨i+1,hi2,by omega,done++canL (S.nx+4+9) (Typ.sk true l[i]),?_,?_,?_,by omega⟩,upTo_lt h4 (by simp) hi2⟩
    · rw[svs_app, ← hnext];simp
    · rw[shs_app,hd,canL_shs,List.take_succ_eq_append_getElem hi2,typsSk_app];simp[typsSk]
    · refine At.app (mid:=S.nx+4+9) ?_ ?_ (by omega) (by omega)
      · exact (ha.keep fun b h1 h2=>by ((try simp);(repeat first | rw[if_neg (by omega)] | rw[if_pos (by omega)]);(try (intro h;exfalso;omega)))).le (by omega) (by omega)
      · exact (At.new fun b h1 h2=>by ((try simp);(repeat first | rw[if_neg (by omega)] | rw[if_pos (by omega)]);(try (intro h;exfalso;omega)))).le (by omega) (by omega)
  · have hi3:i=l.length:=by omega
    subst hi3
    rw[List.take_length] at hd
    simp[h0,h3,h4,hB3,hn,hg,hmd,c]
    rw[rowC_all] at hB3
    have hat:At ((S.adv 4).adv 2) 3 S.nx [.row none 3 l.length done] :=
      .row hB3 (by omega) (by omega) ((ha.mono (S':=(S.adv 4).adv 2) rfl).le (by omega) (by omega)) (fun p hp=>by have:=ha.rng p hp;omega)
    exact fin_1 (sk:=.row none l.length (typsSk true l)) hat (by simp only[Ld.sh,hd]) rfl
set_option maxHeartbeats 1000000 in
theorem g_toType (v:Typ) (hv:TLe 1048576 v):typF gl 276 true [v.d] v:=by
  match v,hv with
  | .mk t l b, .mk ht hl hwf =>
    have hs:=g_toTypeS_of (gl:=gl) l hl (fun i hi =>
      have:=List.sizeOf_lt_of_mem (List.getElem_mem hi)
      g_toType l[i] (hwf _ (List.getElem_mem hi)))
    refine FCall.by_ (md:=[]) Tryz.func276 rfl (by kernel_rfl) (n:=15) Tryz.ntmps276 (by simp) (by decide) rfl ?_
    simp[Typ.cells]
    repeat refine⟨DrawT.mk (by kernel_rfl),?_⟩
    refine CallT.f (n:=40) (hs) (by first | rfl | (simp;done)|(simp;done)) (by first | rfl | kernel_rfl) (by first | rfl | (simp;done)|(simp;done)) ?_
    simp[ Typ.cells]
    refine fin_ag (lo:=12) (cs:=[.d (.string t)]++(canL 12 [Sk.row none l.length (typsSk true l)]++[.d (.bool b)])) (.cons_d (.app (mid:=12+cntL [Sk.row none l.length (typsSk true l)]) (At.new ?_) (.cons_d (.nil (hi:=12+cntL [Sk.row none l.length (typsSk true l)]))) (by omega) (by omega))) ?_ ?_
    · intro b h1 h2
      ((try simp);(repeat first | rw[if_neg (by omega)] | rw[if_pos (by omega)]);(try (intro h;exfalso;omega)))
    · simp[shs_app,canL_shs,shs,Ld.sh,Typ.sk]
    · simp[canL]
  termination_by SizeOf.sizeOf v
  decreasing_by
  simp_wf
  omega
def Arg.sk (e:Bool) (a:Arg):List Sk:=.d (.string a.name)::(a.ty.sk e++.d (.bool a.has)::a.els.sk e)
@[simp] theorem arg_sklen (e:Bool) (a:Arg):(a.sk e).length=10:=by simp[Arg.sk]
theorem arg_skdata (e:Bool) (a:Arg):dataL (a.sk e)=a.cells:=by simp[Arg.sk,dataL,dataL_app,Sk.data,Arg.cells,sk_data,typ_skdata]
theorem typ_svs (t:ByteArray) (l:List Typ) (b:Bool) (q:Nat):svs (canL q (Typ.sk true (.mk t l b)))=[.d (dS t), .os q 0 l.length, .d (dB b)]:=by simp[Typ.sk,canL,Sk.can,Sk.cnt]
theorem val_svs (k n:Int) (t:ByteArray) (l:List Val) (ns:List ByteArray) (q:Nat):svs (canL q (Val.sk true (.mk k n t l ns)))=[.d (dI k), .d (dI n), .d (dS t), .os q 0 l.length, .os (q+(Sk.row none l.length (valsSk true l)).cnt) 0 ns.length]:=by simp[Val.sk,canL,skS,Sk.can,Sk.cnt]
def argsSk (e:Bool) (l:List Arg):List Sk:=l.flatMap (Arg.sk e)
theorem argsSk_cons (e:Bool) (n:Arg) (r:List Arg):argsSk e (n::r)=n.sk e++argsSk e r:=by simp[argsSk]
theorem argsSk_len (e:Bool) (l:List Arg):(argsSk e l).length=l.length*10:=row_len (arg_sklen e) l
theorem argsSk_app (e:Bool) (a b:List Arg):argsSk e (a++b)=argsSk e a++argsSk e b:=by simp[argsSk]
theorem argsSk_data (e:Bool) (l:List Arg):dataL (argsSk e l)=argsCells l:=by
  induction l with
  | nil=>rfl
  | cons n r ih=>rw[argsSk_cons,dataL_app,arg_skdata,ih];simp[argsCells]
theorem argsSk_row (e:Bool) (l:List Arg):(skR e l.length (argsSk e l)).data=argsD l:=by
  rw[skR_data (fun h=>by rw[List.eq_nil_of_length_eq_zero h];rfl),argsSk_data e l]
abbrev argF (gl:Nat→Option D) (f:Nat) (e:Bool) (ds:List D) (n:Arg):Prop:=FCall Tryz.prog gl f ds (.ag (svs (canL 0 (n.sk e)))) (cntL (n.sk e)) (newL (n.sk e))
set_option maxHeartbeats 1000000 in
theorem g_toArgS_of (l:List Arg) (hl:l.length≤1048576) (ih:∀ i (h:i<l.length),argF gl 334 true [l[i].d] l[i]):rowF1 gl 298 [argsD l] (skR true l.length (argsSk true l)):=by
  refine FCall.by_ (md:=[]) Tryz.func298 rfl (by kernel_rfl) (n:=23) Tryz.ntmps298 (by simp) (by decide) rfl ?_
  simp
  refine⟨by omega,?_⟩
  refine LoopT.round (fun E S=>∃ (i:Nat) (done:List Ld),(i≤l.length)∧E 0=some (.d (argsD l))∧E 3=some (.os 3 0 l.length)∧E 4=some (.d (dI i))∧S.B 3=some (rowC (svs done) zArg (l.length - i))∧(shs done=argsSk true (l.take i))∧(At S 4 S.nx done)∧(4≤S.nx)) (upTo 4 l.length) ⟨0,[],by simp;exact⟨by simp[rowC,madeS_zArg],rfl, .nil⟩⟩ ?_
  rintro E S hk ⟨i,done,hi,h0,h3,h4,hB3,hd,ha,hx⟩
  have hn:S.n=23:=by first | (simpa using hk.n)|(have hh:=hk.n;simp at hh;exact hh)
  have hg:S.gl=gl:=by first | (simpa using hk.gl)|(have hh:=hk.gl;simp at hh;exact hh)
  have hmd:S.md=[]:=by first | (simpa using hk.md)|(have hh:=hk.md;simp at hh;exact hh)
  simp[h0,h3,h4,hB3,hn,hg,hmd]
  have w:=wrap64 (n:=(i:Int)+1) (by omega) (by omega)
  have hA:(svs done).length=i*10:=by rw[svs_len, ← shs_len,hd,argsSk_len,List.length_take];congr 1;omega
  have hf:=rowC_len (k:=10) (z:=zArg) rfl hA hi
  refine BrT.dec (fun c=>?_) (fun c=>?_)
  · have hi2:i<l.length:=by omega
    have hlen:=args_len l
    have hfit:i*10+10≤l.length*10:=by omega
    have hnext:=fun X=>rowC_next (k:=10) (z:=zArg) (X:=X) rfl hA hi2
    have htk:∀ cs:List Ld,cs.length=10→(svs cs).take 10=svs cs:=fun cs h=>List.take_of_length_le (by simp[h])
    have hcl:∀ q,(canL q (Arg.sk true l[i])).length=10:=fun q=>by rw[canL_len,arg_sklen]
    have htk2:∀ q,(svs (canL q (Arg.sk true l[i]))).take 10=svs (canL q (Arg.sk true l[i])):=fun q=>htk _ (hcl q)
    simp[h0,h3,h4,hB3,hn,hg,hmd,c,hi2,w,hf,hlen,hfit,args_at,hcl,htk2]
    repeat refine⟨DrawT.mk (by kernel_rfl),?_⟩
    refine CallT.f (n:=40) (ih i hi2) (by first | rfl | (simp;done)|(simp[h0,h3,h4,hB3,hn,hg,hmd,c,hi2,w,hf,hlen,hfit,args_at,hcl,htk2];done)) (by first | rfl | kernel_rfl) (by first | rfl | (simp;done)|(simp[h0,h3,h4,hB3,hn,hg,hmd,c,hi2,w,hf,hlen,hfit,args_at,hcl,htk2];done)) ?_
    simp[h0,h3,h4,hB3,hn,hg,hmd,c,hi2,w,hf,hlen,hfit,args_at,hcl,htk2]
    refine⟨⟨i+1,hi2,by omega,done++canL (S.nx+4+9) (Arg.sk true l[i]),?_,?_,?_,by omega⟩,upTo_lt h4 (by simp) hi2⟩
    · rw[svs_app, ← hnext];simp
    · rw[shs_app,hd,canL_shs,List.take_succ_eq_append_getElem hi2,argsSk_app];simp[argsSk]
    · refine At.app (mid:=S.nx+4+9) ?_ ?_ (by omega) (by omega)
      · exact (ha.keep fun b h1 h2=>by ((try simp);(repeat first | rw[if_neg (by omega)] | rw[if_pos (by omega)]);(try (intro h;exfalso;omega)))).le (by omega) (by omega)
      · exact (At.new fun b h1 h2=>by ((try simp);(repeat first | rw[if_neg (by omega)] | rw[if_pos (by omega)]);(try (intro h;exfalso;omega)))).le (by omega) (by omega)
  · have hi3:i=l.length:=by omega
    subst hi3
    rw[List.take_length] at hd
    simp[h0,h3,h4,hB3,hn,hg,hmd,c]
    rw[rowC_all] at hB3
    have hat:At ((S.adv 4).adv 2) 3 S.nx [.row none 3 l.length done] :=
      .row hB3 (by omega) (by omega) ((ha.mono (S':=(S.adv 4).adv 2) rfl).le (by omega) (by omega)) (fun p hp=>by have:=ha.rng p hp;omega)
    exact fin_1 (sk:=.row none l.length (argsSk true l)) hat (by simp only[Ld.sh,hd]) rfl
set_option maxHeartbeats 1000000 in
theorem g_toArg (a:Arg) (hv:ArgSm a):argF gl 334 true [a.d] a:=by
  have h1:=g_toType (gl:=gl) a.ty hv.2.1
  have h2:=g_toValue (gl:=gl) a.els hv.2.2
  obtain⟨name,ty,has,els⟩:=a
  simp only at h1 h2
  cases ty with
  | mk t l b =>
  cases els with
  | mk ek en et el ens =>
  have hT:=typ_svs t l b
  have hV:=val_svs ek en et el ens
  refine FCall.by_ (md:=[]) Tryz.func334 rfl (by kernel_rfl) (n:=19) Tryz.ntmps334 (by simp) (by decide) rfl ?_
  simp[Arg.cells,Typ.cells,Val.cells,hT,hV]
  repeat refine⟨DrawT.mk (by kernel_rfl),?_⟩
  refine CallT.f (n:=40) (h1) (by first | rfl | (simp;done)|(simp[Arg.cells,Typ.cells,Val.cells,hT,hV];done)) (by first | rfl | kernel_rfl) (by first | rfl | (simp;done)|(simp[Arg.cells,Typ.cells,Val.cells,hT,hV];done)) ?_
  simp[Arg.cells,Typ.cells,Val.cells,hT,hV]
  repeat refine⟨DrawT.mk (by kernel_rfl),?_⟩
  refine CallT.f (n:=40) (h2) (by first | rfl | (simp;done)|(simp[Arg.cells,Typ.cells,Val.cells,hT,hV];done)) (by first | rfl | kernel_rfl) (by first | rfl | (simp;done)|(simp[Arg.cells,Typ.cells,Val.cells,hT,hV];done)) ?_
  simp[Arg.cells,Typ.cells,Val.cells,hT,hV]
  refine fin_ag (lo:=12) (cs:=.d (.string name)::(canL 12 (Typ.sk true (.mk t l b))++.d (.bool has)::canL (12+cntL (Typ.sk true (.mk t l b))+9) (Val.sk true (.mk ek en et el ens)))) (.cons_d (.app (mid:=12+cntL (Typ.sk true (.mk t l b))+9) ((At.new ?_).le (by omega) (by omega)) (.cons_d (At.new ?_)) (by omega) (by omega))) ?_ ?_
  · intro b h1 h2
    ((try simp);(repeat first | rw[if_neg (by omega)] | rw[if_pos (by omega)]);(try (intro h;exfalso;omega)))
  · intro b h1 h2
    ((try simp);(repeat first | rw[if_neg (by omega)] | rw[if_pos (by omega)]);(try (intro h;exfalso;omega)))
  · simp[shs_app,canL_shs,shs,Ld.sh,Arg.sk]
  · simp[hT,hV]
def Fld.sk (e:Bool) (a:Fld):List Sk:=.d (.string a.name)::skR e a.args.length (argsSk e a.args)::a.ty.sk e
@[simp] theorem fld_sklen (e:Bool) (a:Fld):(a.sk e).length=5:=by simp[Fld.sk]
theorem fld_skdata (e:Bool) (a:Fld):dataL (a.sk e)=a.cells:=by simp[Fld.sk,dataL,Sk.data,Fld.cells,argsSk_row,typ_skdata]
def fldsSk (e:Bool) (l:List Fld):List Sk:=l.flatMap (Fld.sk e)
theorem fldsSk_cons (e:Bool) (n:Fld) (r:List Fld):fldsSk e (n::r)=n.sk e++fldsSk e r:=by simp[fldsSk]
theorem fldsSk_len (e:Bool) (l:List Fld):(fldsSk e l).length=l.length*5:=row_len (fld_sklen e) l
theorem fldsSk_app (e:Bool) (a b:List Fld):fldsSk e (a++b)=fldsSk e a++fldsSk e b:=by simp[fldsSk]
theorem fldsSk_data (e:Bool) (l:List Fld):dataL (fldsSk e l)=fldsCells l:=by
  induction l with
  | nil=>rfl
  | cons n r ih=>rw[fldsSk_cons,dataL_app,fld_skdata,ih];simp[fldsCells]
theorem fldsSk_row (e:Bool) (l:List Fld):(skR e l.length (fldsSk e l)).data=fldsD l:=by
  rw[skR_data (fun h=>by rw[List.eq_nil_of_length_eq_zero h];rfl),fldsSk_data e l]
abbrev fldF (gl:Nat→Option D) (f:Nat) (e:Bool) (ds:List D) (n:Fld):Prop:=FCall Tryz.prog gl f ds (.ag (svs (canL 0 (n.sk e)))) (cntL (n.sk e)) (newL (n.sk e))
set_option maxHeartbeats 1000000 in
theorem g_toFieldS_of (l:List Fld) (hl:l.length≤1048576) (ih:∀ i (h:i<l.length),fldF gl 257 true [l[i].d] l[i]):rowF1 gl 182 [fldsD l] (skR true l.length (fldsSk true l)):=by
  refine FCall.by_ (md:=[]) Tryz.func182 rfl (by kernel_rfl) (n:=23) Tryz.ntmps182 (by simp) (by decide) rfl ?_
  simp
  refine⟨by omega,?_⟩
  refine LoopT.round (fun E S=>∃ (i:Nat) (done:List Ld),(i≤l.length)∧E 0=some (.d (fldsD l))∧E 3=some (.os 3 0 l.length)∧E 4=some (.d (dI i))∧S.B 3=some (rowC (svs done) zField (l.length - i))∧(shs done=fldsSk true (l.take i))∧(At S 4 S.nx done)∧(4≤S.nx)) (upTo 4 l.length) ⟨0,[],by simp;exact⟨by simp[rowC,madeS_zField],rfl, .nil⟩⟩ ?_
  rintro E S hk ⟨i,done,hi,h0,h3,h4,hB3,hd,ha,hx⟩
  have hn:S.n=23:=by first | (simpa using hk.n)|(have hh:=hk.n;simp at hh;exact hh)
  have hg:S.gl=gl:=by first | (simpa using hk.gl)|(have hh:=hk.gl;simp at hh;exact hh)
  have hmd:S.md=[]:=by first | (simpa using hk.md)|(have hh:=hk.md;simp at hh;exact hh)
  simp[h0,h3,h4,hB3,hn,hg,hmd]
  have w:=wrap64 (n:=(i:Int)+1) (by omega) (by omega)
  have hA:(svs done).length=i*5:=by rw[svs_len, ← shs_len,hd,fldsSk_len,List.length_take];congr 1;omega
  have hf:=rowC_len (k:=5) (z:=zField) rfl hA hi
  refine BrT.dec (fun c=>?_) (fun c=>?_)
  · have hi2:i<l.length:=by omega
    have hlen:=flds_len l
    have hfit:i*5+5≤l.length*5:=by omega
    have hnext:=fun X=>rowC_next (k:=5) (z:=zField) (X:=X) rfl hA hi2
    have htk:∀ cs:List Ld,cs.length=5→(svs cs).take 5=svs cs:=fun cs h=>List.take_of_length_le (by simp[h])
    have hcl:∀ q,(canL q (Fld.sk true l[i])).length=5:=fun q=>by rw[canL_len,fld_sklen]
    have htk2:∀ q,(svs (canL q (Fld.sk true l[i]))).take 5=svs (canL q (Fld.sk true l[i])):=fun q=>htk _ (hcl q)
    simp[h0,h3,h4,hB3,hn,hg,hmd,c,hi2,w,hf,hlen,hfit,flds_at,hcl,htk2]
    repeat refine⟨DrawT.mk (by kernel_rfl),?_⟩
    refine CallT.f (n:=40) (ih i hi2) (by first | rfl | (simp;done)|(simp[h0,h3,h4,hB3,hn,hg,hmd,c,hi2,w,hf,hlen,hfit,flds_at,hcl,htk2];done)) (by first | rfl | kernel_rfl) (by first | rfl | (simp;done)|(simp[h0,h3,h4,hB3,hn,hg,hmd,c,hi2,w,hf,hlen,hfit,flds_at,hcl,htk2];done)) ?_
    simp[h0,h3,h4,hB3,hn,hg,hmd,c,hi2,w,hf,hlen,hfit,flds_at,hcl,htk2]
    refine⟨⟨i+1,hi2,by omega,done++canL (S.nx+4+9) (Fld.sk true l[i]),?_,?_,?_,by omega⟩,upTo_lt h4 (by simp) hi2⟩
    · rw[svs_app, ← hnext];simp
    · rw[shs_app,hd,canL_shs,List.take_succ_eq_append_getElem hi2,fldsSk_app];simp[fldsSk]
    · refine At.app (mid:=S.nx+4+9) ?_ ?_ (by omega) (by omega)
      · exact (ha.keep fun b h1 h2=>by ((try simp);(repeat first | rw[if_neg (by omega)] | rw[if_pos (by omega)]);(try (intro h;exfalso;omega)))).le (by omega) (by omega)
      · exact (At.new fun b h1 h2=>by ((try simp);(repeat first | rw[if_neg (by omega)] | rw[if_pos (by omega)]);(try (intro h;exfalso;omega)))).le (by omega) (by omega)
  · have hi3:i=l.length:=by omega
    subst hi3
    rw[List.take_length] at hd
    simp[h0,h3,h4,hB3,hn,hg,hmd,c]
    rw[rowC_all] at hB3
    have hat:At ((S.adv 4).adv 2) 3 S.nx [.row none 3 l.length done] :=
      .row hB3 (by omega) (by omega) ((ha.mono (S':=(S.adv 4).adv 2) rfl).le (by omega) (by omega)) (fun p hp=>by have:=ha.rng p hp;omega)
    exact fin_1 (sk:=.row none l.length (fldsSk true l)) hat (by simp only[Ld.sh,hd]) rfl
set_option maxHeartbeats 1000000 in
theorem g_toField (a:Fld) (hv:FldSm a):fldF gl 257 true [a.d] a:=by
  have h1:=g_toArgS_of (gl:=gl) a.args hv.2.1.1 (fun i hi=>g_toArg a.args[i] (hv.2.1.2 _ (List.getElem_mem hi)))
  have h2:=g_toType (gl:=gl) a.ty hv.2.2
  obtain⟨name,args,ty⟩:=a
  simp only at h1 h2
  cases ty with
  | mk t l b =>
  have hT:=typ_svs t l b
  refine FCall.by_ (md:=[]) Tryz.func257 rfl (by kernel_rfl) (n:=16) Tryz.ntmps257 (by simp) (by decide) rfl ?_
  simp[Fld.cells,Typ.cells,hT]
  repeat refine⟨DrawT.mk (by kernel_rfl),?_⟩
  refine CallT.f (n:=40) (h1) (by first | rfl | (simp;done)|(simp[Fld.cells,Typ.cells,hT];done)) (by first | rfl | kernel_rfl) (by first | rfl | (simp;done)|(simp[Fld.cells,Typ.cells,hT];done)) ?_
  simp[Fld.cells,Typ.cells,hT]
  repeat refine⟨DrawT.mk (by kernel_rfl),?_⟩
  refine CallT.f (n:=40) (h2) (by first | rfl | (simp;done)|(simp[Fld.cells,Typ.cells,hT];done)) (by first | rfl | kernel_rfl) (by first | rfl | (simp;done)|(simp[Fld.cells,Typ.cells,hT];done)) ?_
  simp[Fld.cells,Typ.cells,hT]
  refine fin_ag (lo:=12) (cs:=.d (.string name)::(canL 12 [Sk.row none args.length (argsSk true args)]++canL (12+cntL [Sk.row none args.length (argsSk true args)]+5) (Typ.sk true (.mk t l b)))) (.cons_d (.app (mid:=12+cntL [Sk.row none args.length (argsSk true args)]+5) ((At.new ?_).le (by omega) (by omega)) (At.new ?_) (by omega) (by omega))) ?_ ?_
  · intro b h1 h2
    ((try simp);(repeat first | rw[if_neg (by omega)] | rw[if_pos (by omega)]);(try (intro h;exfalso;omega)))
  · intro b h1 h2
    ((try simp);(repeat first | rw[if_neg (by omega)] | rw[if_pos (by omega)]);(try (intro h;exfalso;omega)))
  · simp[shs_app,canL_shs,shs,Ld.sh,Fld.sk]
  · simp[hT,canL]
def Def.sk (e:Bool) (a:Def):List Sk:=[.d (.string a.name), .d (.int .i64 a.kind),skR e a.flds.length (fldsSk e a.flds),skS e a.words]
@[simp] theorem def_sklen (e:Bool) (a:Def):(a.sk e).length=4:=by simp[Def.sk]
theorem def_skdata (e:Bool) (a:Def):dataL (a.sk e)=a.cells:=by simp[Def.sk,dataL,Sk.data,Def.cells,fldsSk_row,skS_data]
def defsSk (e:Bool) (l:List Def):List Sk:=l.flatMap (Def.sk e)
theorem defsSk_cons (e:Bool) (n:Def) (r:List Def):defsSk e (n::r)=n.sk e++defsSk e r:=by simp[defsSk]
theorem defsSk_len (e:Bool) (l:List Def):(defsSk e l).length=l.length*4:=row_len (def_sklen e) l
theorem defsSk_app (e:Bool) (a b:List Def):defsSk e (a++b)=defsSk e a++defsSk e b:=by simp[defsSk]
theorem defsSk_data (e:Bool) (l:List Def):dataL (defsSk e l)=defsCells l:=by
  induction l with
  | nil=>rfl
  | cons n r ih=>rw[defsSk_cons,dataL_app,def_skdata,ih];simp[defsCells]
theorem defsSk_row (e:Bool) (l:List Def):(skR e l.length (defsSk e l)).data=defsD l:=by
  rw[skR_data (fun h=>by rw[List.eq_nil_of_length_eq_zero h];rfl),defsSk_data e l]
abbrev defF (gl:Nat→Option D) (f:Nat) (e:Bool) (ds:List D) (n:Def):Prop:=FCall Tryz.prog gl f ds (.ag (svs (canL 0 (n.sk e)))) (cntL (n.sk e)) (newL (n.sk e))
set_option maxHeartbeats 1000000 in
theorem g_toDefS_of (l:List Def) (hl:l.length≤1048576) (ih:∀ i (h:i<l.length),defF gl 88 true [l[i].d] l[i]):rowF1 gl 25 [defsD l] (skR true l.length (defsSk true l)):=by
  refine FCall.by_ (md:=[]) Tryz.func25 rfl (by kernel_rfl) (n:=23) Tryz.ntmps25 (by simp) (by decide) rfl ?_
  simp
  refine⟨by omega,?_⟩
  refine LoopT.round (fun E S=>∃ (i:Nat) (done:List Ld),(i≤l.length)∧E 0=some (.d (defsD l))∧E 3=some (.os 3 0 l.length)∧E 4=some (.d (dI i))∧S.B 3=some (rowC (svs done) zDef (l.length - i))∧(shs done=defsSk true (l.take i))∧(At S 4 S.nx done)∧(4≤S.nx)) (upTo 4 l.length) ⟨0,[],by simp;exact⟨by simp[rowC,madeS_zDef],rfl, .nil⟩⟩ ?_
  rintro E S hk ⟨i,done,hi,h0,h3,h4,hB3,hd,ha,hx⟩
  have hn:S.n=23:=by first | (simpa using hk.n)|(have hh:=hk.n;simp at hh;exact hh)
  have hg:S.gl=gl:=by first | (simpa using hk.gl)|(have hh:=hk.gl;simp at hh;exact hh)
  have hmd:S.md=[]:=by first | (simpa using hk.md)|(have hh:=hk.md;simp at hh;exact hh)
  simp[h0,h3,h4,hB3,hn,hg,hmd]
  have w:=wrap64 (n:=(i:Int)+1) (by omega) (by omega)
  have hA:(svs done).length=i*4:=by rw[svs_len, ← shs_len,hd,defsSk_len,List.length_take];congr 1;omega
  have hf:=rowC_len (k:=4) (z:=zDef) rfl hA hi
  refine BrT.dec (fun c=>?_) (fun c=>?_)
  · have hi2:i<l.length:=by omega
    have hlen:=defs_len l
    have hfit:i*4+4≤l.length*4:=by omega
    have hnext:=fun X=>rowC_next (k:=4) (z:=zDef) (X:=X) rfl hA hi2
    have htk:∀ cs:List Ld,cs.length=4→(svs cs).take 4=svs cs:=fun cs h=>List.take_of_length_le (by simp[h])
    have hcl:∀ q,(canL q (Def.sk true l[i])).length=4:=fun q=>by rw[canL_len,def_sklen]
    have htk2:∀ q,(svs (canL q (Def.sk true l[i]))).take 4=svs (canL q (Def.sk true l[i])):=fun q=>htk _ (hcl q)
    simp[h0,h3,h4,hB3,hn,hg,hmd,c,hi2,w,hf,hlen,hfit,defs_at,hcl,htk2]
    repeat refine⟨DrawT.mk (by kernel_rfl),?_⟩
    refine CallT.f (n:=40) (ih i hi2) (by first | rfl | (simp;done)|(simp[h0,h3,h4,hB3,hn,hg,hmd,c,hi2,w,hf,hlen,hfit,defs_at,hcl,htk2];done)) (by first | rfl | kernel_rfl) (by first | rfl | (simp;done)|(simp[h0,h3,h4,hB3,hn,hg,hmd,c,hi2,w,hf,hlen,hfit,defs_at,hcl,htk2];done)) ?_
    simp[h0,h3,h4,hB3,hn,hg,hmd,c,hi2,w,hf,hlen,hfit,defs_at,hcl,htk2]
    refine⟨⟨i+1,hi2,by omega,done++canL (S.nx+4+9) (Def.sk true l[i]),?_,?_,?_,by omega⟩,upTo_lt h4 (by simp) hi2⟩
    · rw[svs_app, ← hnext];simp
    · rw[shs_app,hd,canL_shs,List.take_succ_eq_append_getElem hi2,defsSk_app];simp[defsSk]
    · refine At.app (mid:=S.nx+4+9) ?_ ?_ (by omega) (by omega)
      · exact (ha.keep fun b h1 h2=>by ((try simp);(repeat first | rw[if_neg (by omega)] | rw[if_pos (by omega)]);(try (intro h;exfalso;omega)))).le (by omega) (by omega)
      · exact (At.new fun b h1 h2=>by ((try simp);(repeat first | rw[if_neg (by omega)] | rw[if_pos (by omega)]);(try (intro h;exfalso;omega)))).le (by omega) (by omega)
  · have hi3:i=l.length:=by omega
    subst hi3
    rw[List.take_length] at hd
    simp[h0,h3,h4,hB3,hn,hg,hmd,c]
    rw[rowC_all] at hB3
    have hat:At ((S.adv 4).adv 2) 3 S.nx [.row none 3 l.length done] :=
      .row hB3 (by omega) (by omega) ((ha.mono (S':=(S.adv 4).adv 2) rfl).le (by omega) (by omega)) (fun p hp=>by have:=ha.rng p hp;omega)
    exact fin_1 (sk:=.row none l.length (defsSk true l)) hat (by simp only[Ld.sh,hd]) rfl
set_option maxHeartbeats 1000000 in
theorem g_toDef (a:Def) (hv:DefSm a):defF gl 88 true [a.d] a:=by
  have h1:=g_toFieldS_of (gl:=gl) a.flds hv.2.1.1 (fun i hi=>g_toField a.flds[i] (hv.2.1.2 _ (List.getElem_mem hi)))
  have h2:=g_toStringS (gl:=gl) a.words hv.2.2.1
  obtain⟨name,kind,flds,words⟩:=a
  simp only at h1 h2
  refine FCall.by_ (md:=[]) Tryz.func88 rfl (by kernel_rfl) (n:=19) Tryz.ntmps88 (by simp) (by decide) rfl ?_
  simp[Def.cells]
  repeat refine⟨DrawT.mk (by kernel_rfl),?_⟩
  refine CallT.f (n:=40) (h1) (by first | rfl | (simp;done)|(simp[Def.cells];done)) (by first | rfl | kernel_rfl) (by first | rfl | (simp;done)|(simp[Def.cells];done)) ?_
  simp[Def.cells]
  repeat refine⟨DrawT.mk (by kernel_rfl),?_⟩
  refine CallT.f (n:=40) (h2) (by first | rfl | (simp;done)|(simp[Def.cells];done)) (by first | rfl | kernel_rfl) (by first | rfl | (simp;done)|(simp[Def.cells];done)) ?_
  simp[Def.cells]
  refine fin_ag (lo:=16) (cs:=.d (.string name)::.d (.int .i64 kind)::(canL 16 [Sk.row none flds.length (fldsSk true flds)]++canL (16+cntL [Sk.row none flds.length (fldsSk true flds)]+5) [skS true words])) (.cons_d (.cons_d (.app (mid:=16+cntL [Sk.row none flds.length (fldsSk true flds)]+5) ((At.new ?_).le (by omega) (by omega)) (At.new ?_) (by omega) (by omega)))) ?_ ?_
  · intro b h1 h2
    ((try simp);(repeat first | rw[if_neg (by omega)] | rw[if_pos (by omega)]);(try (intro h;exfalso;omega)))
  · intro b h1 h2
    ((try simp);(repeat first | rw[if_neg (by omega)] | rw[if_pos (by omega)]);(try (intro h;exfalso;omega)))
  · simp[shs_app,canL_shs,shs,Ld.sh,Def.sk]
  · simp[canL]
theorem g_toDefS (l:List Def) (hl:l.length≤1048576) (hs:∀ d∈l,DefSm d):rowF1 gl 25 [defsD l] (skR true l.length (defsSk true l)):=g_toDefS_of l hl fun i hi=>g_toDef l[i] (hs _ (List.getElem_mem hi))
mutual
def Typ.sz:Typ→List Sk
  | .mk t l b=>[.d (.string t),skZ 3 l.length (typsZ l), .d (.bool b)]
def typsZ:List Typ→List Sk
  | []=>[]
  | v::r=>v.sz++typsZ r
end
@[simp] theorem typ_szlen (v:Typ):v.sz.length=3:=by cases v;rfl
theorem typsZ_app:∀ a b:List Typ,typsZ (a++b)=typsZ a++typsZ b
  | [],b=>by simp[typsZ]
  | x::r,b=>by simp[typsZ,typsZ_app r b]
theorem typsZ_len:∀ l:List Typ,(typsZ l).length=l.length*3
  | []=>by simp[typsZ]
  | x::r=>by simp[typsZ,typsZ_len r];omega
theorem typsZ_next (l:List Typ) {i:Nat} (h:i<l.length):typsZ (l.take (i+1))=typsZ (l.take i)++l[i].sz:=by
  rw[List.take_succ_eq_append_getElem h,typsZ_app];simp[typsZ]
mutual
theorem typ_szdata:∀ v:Typ,dataL v.sz=v.cells
  | .mk t l b=>by
    have:(skZ 3 l.length (typsZ l)).data=typsD l:=by
      rw[skZ_data (fun h=>by rw[List.eq_nil_of_length_eq_zero h];simp[typsZ]),typsZ_data l]
    simp[Typ.sz,dataL,Sk.data,Typ.cells,this]
theorem typsZ_data:∀ l:List Typ,dataL (typsZ l)=typsCells l
  | []=>by simp[typsZ,dataL,typsCells]
  | v::r=>by simp[typsZ,dataL_app,typsCells,typ_szdata v,typsZ_data r]
end
mutual
theorem typ_szflat:∀ v:Typ,flatS v.sz=v.sk false
  | .mk t l b=>by simp only[Typ.sz,Typ.sk,flatS,Sk.flat,skZ_flat,typsZ_flat l]
theorem typsZ_flat:∀ l:List Typ,flatS (typsZ l)=typsSk false l
  | []=>by simp[typsZ,typsSk,flatS]
  | v::r=>by simp[typsZ,typsSk,flatS_app,typ_szflat v,typsZ_flat r]
end
abbrev typZ (gl:Nat→Option D) (f:Nat) (ds:List D) (v:Typ):Prop:=FCall Tryz.prog gl f ds (.ag (svs (canL 0 v.sz))) (cntL v.sz) (newL v.sz)
def rowsZ {α:Type} (f:α→List Sk) (l:List α):List Sk:=l.flatMap f
theorem rowsZ_next {α:Type} (f:α→List Sk) (l:List α) {i:Nat} (h:i<l.length):rowsZ f (l.take (i+1))=rowsZ f (l.take i)++f l[i]:=by
  rw[rowsZ,List.take_succ_eq_append_getElem h,List.flatMap_append];simp[rowsZ]
theorem rowsZ_len {α:Type}{f:α→List Sk}{k:Nat} (h:∀ x,(f x).length=k) (l:List α):(rowsZ f l).length=l.length*k:=row_len h l
theorem rowsZ_data {α:Type}{f:α→List Sk}{g:α→List D} (h:∀ x,dataL (f x)=g x):∀ l:List α,dataL (rowsZ f l)=l.flatMap g
  | []=>rfl
  | x::r=>by
    have:=rowsZ_data h r
    simp only[rowsZ,List.flatMap_cons,dataL_app] at this ⊢
    rw[h,this]
theorem rowsZ_flat {α:Type}{f g:α→List Sk} (h:∀ x,flatS (f x)=g x):∀ l:List α,flatS (rowsZ f l)=l.flatMap g
  | []=>rfl
  | x::r=>by
    have:=rowsZ_flat h r
    simp only[rowsZ,List.flatMap_cons,flatS_app] at this ⊢
    rw[h,this]
def Arg.sz (a:Arg):List Sk:=.d (.string a.name)::(a.ty.sz++.d (.bool a.has)::a.els.sz)
@[simp] theorem arg_szlen (a:Arg):a.sz.length=10:=by simp[Arg.sz]
theorem arg_szdata (a:Arg):dataL a.sz=a.cells:=by simp[Arg.sz,dataL,dataL_app,Sk.data,Arg.cells,sz_data,typ_szdata]
theorem arg_szflat (a:Arg):flatS a.sz=a.sk false:=by simp[Arg.sz,Arg.sk,flatS,flatS_app,Sk.flat,sz_flat,typ_szflat]
def Fld.sz (a:Fld):List Sk:=.d (.string a.name)::skZ 10 a.args.length (rowsZ Arg.sz a.args)::a.ty.sz
@[simp] theorem fld_szlen (a:Fld):a.sz.length=5:=by simp[Fld.sz]
theorem fld_szdata (a:Fld):dataL a.sz=a.cells:=by
  have:(skZ 10 a.args.length (rowsZ Arg.sz a.args)).data=argsD a.args:=by
    rw[skZ_data (fun h=>by rw[List.eq_nil_of_length_eq_zero h];rfl),rowsZ_data arg_szdata];rfl
  simp[Fld.sz,dataL,Sk.data,Fld.cells,this,typ_szdata]
theorem fld_szflat (a:Fld):flatS a.sz=a.sk false:=by
  simp only[Fld.sz,Fld.sk,flatS,Sk.flat,skZ_flat,rowsZ_flat arg_szflat,typ_szflat,argsSk]
def Def.sz (a:Def):List Sk:=[.d (.string a.name), .d (.int .i64 a.kind),skZ 5 a.flds.length (rowsZ Fld.sz a.flds),skT a.words]
@[simp] theorem def_szlen (a:Def):a.sz.length=4:=by simp[Def.sz]
theorem def_szdata (a:Def):dataL a.sz=a.cells:=by
  have:(skZ 5 a.flds.length (rowsZ Fld.sz a.flds)).data=fldsD a.flds:=by
    rw[skZ_data (fun h=>by rw[List.eq_nil_of_length_eq_zero h];rfl),rowsZ_data fld_szdata];rfl
  simp[Def.sz,dataL,Sk.data,Def.cells,this,skT_data]
theorem def_szflat (a:Def):flatS a.sz=a.sk false:=by
  simp only[Def.sz,Def.sk,flatS,Sk.flat,skZ_flat,rowsZ_flat fld_szflat,skT_flat,fldsSk]
abbrev fldZ (gl:Nat→Option D) (f:Nat) (ds:List D) (v:Fld):Prop:=FCall Tryz.prog gl f ds (.ag (svs (canL 0 v.sz))) (cntL v.sz) (newL v.sz)
def skDefs (l:List Def):Sk:=skZ 4 l.length (rowsZ Def.sz l)
theorem skDefs_flat (l:List Def):(skDefs l).flat=skR false l.length (defsSk false l):=by
  simp only[skDefs,skZ_flat,rowsZ_flat def_szflat,defsSk]
theorem skDefs_data (l:List Def):(skDefs l).data=defsD l:=by
  unfold skDefs
  rw[skZ_data (fun h=>by rw[List.eq_nil_of_length_eq_zero h];rfl),rowsZ_data def_szdata];rfl
set_option maxHeartbeats 4000000 in
theorem g_l2Copy (v:Typ) (hv:TLe 1048576 v):typZ gl 261 [v.d] v:=by
  match v,hv with
  | .mk t l b, .mk ht hl hwf =>
    have ih:∀ i (hi:i<l.length),typZ gl 261 [l[i].d] l[i]:=fun i hi =>
      have:=List.sizeOf_lt_of_mem (List.getElem_mem hi)
      g_l2Copy l[i] (hwf _ (List.getElem_mem hi))
    refine FCall.by_ (md:=[1000025,1000026]) Tryz.func261 rfl (by kernel_rfl) (n:=29) Tryz.ntmps261 (by simp) (by decide) rfl ?_
    simp[Typ.cells]
    refine LoopT.round (fun E S=>∃ (i:Nat) (x:Ld),(i≤l.length)∧E 1=some (.op 0 0)∧E 2=some (.op 1 0)∧E 3=some (.op 7 0)∧E 4=some (.d (dI i))∧S.B 0=some ([.d (dS t), .d (typsD l), .d (dB b)])∧S.B 1=some (zType)∧S.B 7=some ([.d (dS t),x.sv, .d (dB b)])∧(x.sh=skZ 3 i (typsZ (l.take i)))∧(At S 9 S.nx [x])∧(9≤S.nx)) (upTo 4 l.length) ⟨0, .nil,by simp;exact⟨by simp[Ld.sh], .cons_nil .nil⟩⟩ ?_
    rintro E S hk ⟨i,x,hi,h1,h2,h3,h4,hB0,hB1,hB7,hX,ha,hx⟩
    have hn:S.n=29:=by first | (simpa using hk.n)|(have hh:=hk.n;simp at hh;exact hh)
    have hg:S.gl=gl:=by first | (simpa using hk.gl)|(have hh:=hk.gl;simp at hh;exact hh)
    have hmd:S.md=[1000025,1000026]:=by first | (simpa using hk.md)|(have hh:=hk.md;simp at hh;exact hh)
    simp[h1,h2,h3,h4,hB0,hB1,hB7,hn,hg,hmd]
    have w:=wrap64 (n:=(i:Int)+1) (by omega) (by omega)
    obtain⟨o1,o2,o3⟩:=z_one hX
    refine BrT.dec (fun c=>?_) (fun c=>?_)
    · have hi2:i<l.length:=by omega
      have hlen:=typsCells_len l
      have hfit:i*3+3≤l.length*3:=by omega
      simp[h1,h2,h3,h4,hB0,hB1,hB7,hn,hg,hmd,c,hi2,w,hlen,hfit,typsCells_at,tcells_len,o1,o2]
      refine⟨DrawT.mk (by kernel_rfl),?_⟩
      refine CallT.o (n:=40) [((1,3),7)] (ih i hi2) (by first | rfl | (simp;done)|(simp[h1,h2,h3,h4,hB0,hB1,hB7,hn,hg,hmd,c,hi2,w,hlen,hfit,typsCells_at,tcells_len,o1,o2];done)) (by kernel_rfl) (by kernel_rfl) (by first | (simp[Eh.e];done)|(simp[h1,h2,h3,h4,hB0,hB1,hB7,hn,hg,hmd,c,hi2,w,hlen,hfit,typsCells_at,tcells_len,o1,o2,Eh.e];done)|(simp[h1,h2,h3,h4,hB0,hB1,hB7,hn,hg,hmd,c,hi2,w,hlen,hfit,typsCells_at,tcells_len,o1,o2,Eh.e];omega)) (by first | (simp[Ar.a];done)|(simp[Ar.a];omega)) (fun B' hB'=>by first | rfl | (simp;done)|(simp[hB'];done)|(simp[h1,h2,h3,h4,hB0,hB1,hB7,hn,hg,hmd,c,hi2,w,hlen,hfit,typsCells_at,tcells_len,o1,o2,hB'];done)) ?_
      simp[h1,h2,h3,h4,hB0,hB1,hB7,hn,hg,hmd,c,hi2,w,hlen,hfit,typsCells_at,tcells_len,o1,o2]
      have hvn:=typsZ_next l hi2
      rcases ld_z hX with ⟨rfl,h0⟩ | ⟨b',cs,rfl,hsc,hpos⟩
      · simp[h1,h2,h3,h4,hB0,hB1,hB7,hn,hg,hmd,c,hi2,w,hlen,hfit,typsCells_at,tcells_len,o1,o2]
        refine⟨by unfold appBound;omega,⟨i+1,hi2,by omega, .row (some 3) (S.nx+5+9) 1 (canL (S.nx+5+12) l[i].sz),rfl,?_,?_,by omega⟩,upTo_lt h4 (by simp) hi2⟩
        · subst h0
          exact row_sh (by rw[canL_shs,hvn];simp[typsZ]) (by omega)
        · refine .row (by simp) (by omega) (by omega) ((At.new fun b h1 h2=>by ((try simp);(repeat first | rw[if_neg (by omega)] | rw[if_pos (by omega)]);(try (intro h;exfalso;omega)))).le (by omega) (by omega)) (fun p hp=>by have:=canL_rng hp;omega)
      · have hb:=ha.rng (b',svs cs) (by simp[varsL,Ld.vars])
        have hBb:=ha.has (b',svs cs) (by simp[varsL,Ld.vars])
        have hA:(svs cs).length=i*3:=by rw[svs_len, ← shs_len,hsc,typsZ_len,List.length_take];congr 1;omega
        simp only at hb hBb
        have hlt:b'<S.nx+5+12:=by omega
        have htk:List.take (i*3) (svs cs)=svs cs:=List.take_of_length_le (by omega)
        have nb:∀ k,k<9→¬ k=b':=fun k hk=>by omega
        have nb2:∀ k,k<9→¬ b'=k:=fun k hk=>by omega
        simp[h1,h2,h3,h4,hB0,hB1,hB7,hn,hg,hmd,c,hi2,w,hlen,hfit,typsCells_at,tcells_len,o1,o2,hBb,hA,hlt,htk,nb,nb2]
        refine⟨by unfold appBound;omega,⟨i+1,hi2,by omega, .row (some 3) (S.nx+5+9) (i+1) (cs++canL (S.nx+5+12) l[i].sz),rfl,?_,?_,by omega⟩,upTo_lt h4 (by simp) hi2⟩
        · exact row_sh (by rw[shs_app,canL_shs,hvn,hsc]) (by omega)
        · refine ha.grow (lo2:=S.nx+5+12) ((At.new ?_).le (by omega) (by omega)) (by simp) ?_ (by omega) (by omega) (by omega) (by omega) (fun p hp=>by have:=canL_rng hp;omega) (by omega)
          · intro b h1 h2;((try simp);(repeat first | rw[if_neg (by omega)] | rw[if_pos (by omega)]);(try (intro h;exfalso;omega)))
          · intro x h1 h2 h3;((try simp);(repeat first | rw[if_neg (by omega)] | rw[if_pos (by omega)]);(try (intro h;exfalso;omega)))
    · have hi3:i=l.length:=by omega
      subst hi3
      rw[List.take_length] at hX
      simp[h1,h2,h3,h4,hB0,hB1,hB7,hn,hg,hmd,c,o1,o2,o3]
      refine fin_ag (lo:=9) (hi:=S.nx) (cs:=[.d (.string t),x, .d (.bool b)]) (.cons_d (.app (a:=[x]) (mid:=S.nx) (ha.keep fun b h1 h2=>by ((try simp);(repeat first | rw[if_neg (by omega)] | rw[if_pos (by omega)]);(try (intro h;exfalso;omega)))) (.cons_d .nil) (by omega) (by omega))) ?_ ?_
      · simp[shs,Ld.sh,Typ.sz,hX]
      · simp
  termination_by SizeOf.sizeOf v
  decreasing_by
  simp_wf
  omega
inductive TOne:Typ→Prop
  | name {t:ByteArray} {b:Bool} (h:t≠⟨#[]⟩):TOne (.mk t [] b)
  | list {v:Typ} {b:Bool} (h:TOne v):TOne (.mk ⟨#[]⟩ [v] b)
set_option maxHeartbeats 1000000 in
theorem g_copyType (v:Typ) (hv:TOne v):typZ gl 264 [v.d] v:=by
  match v,hv with
  | .mk t [] b, .name ht =>
    refine FCall.by_ (md:=[17,1000017]) Tryz.func264 rfl (by kernel_rfl) (n:=20) Tryz.ntmps264 (by simp) (by decide) rfl ?_
    simp[Typ.cells]
    simp[ht]
    refine fin_ag (lo:=0) (hi:=0) (cs:=[.d (.string t), .nil, .d (.bool b)]) (.cons_d (.cons_nil (.cons_d .nil))) ?_ ?_
    · simp[shs,Ld.sh,Typ.sz]
    · simp[typsCells]
  | .mk _ [v] b, .list h =>
    have ih:typZ gl 264 [v.d] v:=g_copyType v h
    have hc1:typsCells [v]=v.cells:=by simp[typsCells]
    have htk:List.take 3 v.cells=v.cells:=List.take_of_length_le (by rw[tcells_len];omega)
    refine FCall.by_ (md:=[17,1000017]) Tryz.func264 rfl (by kernel_rfl) (n:=20) Tryz.ntmps264 (by simp) (by decide) rfl ?_
    simp[Typ.cells]
    simp[hc1,htk,tcells_len]
    repeat refine⟨DrawT.mk (by kernel_rfl),?_⟩
    refine CallT.f (n:=40) (ih) (by first | rfl | (simp;done)|(simp[hc1,htk,tcells_len];done)) (by first | rfl | kernel_rfl) (by first | rfl | (simp;done)|(simp[hc1,htk,tcells_len];done)) ?_
    simp[hc1,htk,tcells_len]
    refine fin_ag (lo:=17) (hi:=20+cntL v.sz) (cs:=[.d (.string ⟨#[]⟩), .row (some 3) 17 1 (canL 20 v.sz), .d (.bool b)]) (.cons_d (.app (a:=[.row (some 3) 17 1 (canL 20 v.sz)]) (mid:=20+cntL v.sz) ?_ (.cons_d .nil) (by omega) (by omega))) ?_ ?_
    · exact .row (by simp) (by omega) (by omega) ((At.new fun b h1 h2=>by ((try simp);(repeat first | rw[if_neg (by omega)] | rw[if_pos (by omega)]);(try (intro h;exfalso;omega)))).le (by omega) (by omega)) (fun p hp=>by have:=canL_rng hp;omega)
    · have:(Ld.row (some 3) 17 1 (canL 20 v.sz)).sh=skZ 3 1 (typsZ [v]):=row_sh (by rw[canL_shs];simp[typsZ]) (by omega)
      show [Sk.d (.string ⟨#[]⟩),(Ld.row (some 3) 17 1 (canL 20 v.sz)).sh,Sk.d (.bool b)]=_
      rw[this];simp[Typ.sz]
    · simp
  termination_by SizeOf.sizeOf v
theorem names_apart:∀ {a b:List ByteArray},a.length=b.length→a≠b→∃ (j:Nat) (h:j<(a.map dS).length) (h':j<(b.map dS).length),Apart (a.map dS)[j] (b.map dS)[j]
  | [],[],_,h=>absurd rfl h
  | x::a,y::b,hl,h=>by
    by_cases e:x=y
    · subst e
      obtain⟨j,h1,h2,h3⟩:=names_apart (a:=a) (b:=b) (by simpa using hl) (fun e=>h (by rw[e]))
      exact⟨j+1,by simpa using h1,by simpa using h2,by simpa using h3⟩
    · exact⟨0,by simp,by simp, .v (fun c=>e (by simpa using c))⟩
mutual
theorem cells_apart:∀ (a b:Val),a≠b→∃ (j:Nat) (h:j<a.cells.length) (h':j<b.cells.length),Apart a.cells[j] b.cells[j]
  | .mk k n t l ns, .mk k' n' t' l' ns',h=>by
    by_cases e1:k=k'
    · by_cases e2:n=n'
      · by_cases e3:t=t'
        · by_cases e4:l=l'
          · have e5:ns≠ns':=fun e=>h (by rw[e1,e2,e3,e4,e])
            refine⟨4,by simp[Val.cells],by simp[Val.cells],?_⟩
            simp only[Val.cells,List.getElem_cons_succ,List.getElem_cons_zero]
            by_cases e:ns.length=ns'.length
            · obtain⟨j,h1,h2,h3⟩:=names_apart e e5
              exact .ps h1 h2 h3
            · exact .len e
          · refine⟨3,by simp[Val.cells],by simp[Val.cells],?_⟩
            simp only[Val.cells,List.getElem_cons_succ,List.getElem_cons_zero]
            by_cases e:l.length=l'.length
            · obtain⟨j,h1,h2,h3⟩:=list_apart l l' e e4
              exact .ps h1 h2 h3
            · exact .len e
        · exact⟨2,by simp[Val.cells],by simp[Val.cells],by simp only[Val.cells,List.getElem_cons_succ,List.getElem_cons_zero];exact .v (fun c=>e3 (by simpa using c))⟩
      · exact⟨1,by simp[Val.cells],by simp[Val.cells],by simp only[Val.cells,List.getElem_cons_succ,List.getElem_cons_zero];exact .v (fun c=>e2 (by simpa using c))⟩
    · exact⟨0,by simp[Val.cells],by simp[Val.cells],by simp only[Val.cells,List.getElem_cons_succ,List.getElem_cons_zero];exact .v (fun c=>e1 (by simpa using c))⟩
theorem list_apart:∀ (a b:List Val),a.length=b.length→a≠b→∃ (j:Nat) (h:j<(valsCells a).length) (h':j<(valsCells b).length),Apart (valsCells a)[j] (valsCells b)[j]
  | [],[],_,h=>absurd rfl h
  | [],_::_,h,_=>by simp at h
  | _::_,[],h,_=>by simp at h
  | x::a,y::b,hl,h=>by
    by_cases e:x=y
    · subst e
      obtain⟨j,h1,h2,h3⟩:=list_apart a b (by simpa using hl) (fun e=>h (by rw[e]))
      have hx:=cells_len x
      refine⟨5+j,by simp[valsCells,hx];omega,by simp[valsCells,hx];omega,?_⟩
      simp only[valsCells]
      rw[List.getElem_append_right (by omega),List.getElem_append_right (by omega)]
      simp only[hx,Nat.add_sub_cancel_left]
      exact h3
    · obtain⟨j,h1,h2,h3⟩:=cells_apart x y e
      refine⟨j,by simp only[valsCells,List.length_append];omega,by simp only[valsCells,List.length_append];omega,?_⟩
      simp only[valsCells]
      rw[List.getElem_append_left h1,List.getElem_append_left h2]
      exact h3
end
def spanC (l:List Val):List D:=if l=[] then [.v (.pointer none),dI 0] else [.pp (valsCells l) 0,dI l.length]
theorem span_apart {a b:List Val} (h:a≠b):Apart (.agg (spanC a)) (.agg (spanC b)):=by
  unfold spanC
  by_cases ha:a=[]
  · subst ha
    rw[if_pos rfl,if_neg (fun e=>h e.symm)]
    exact .agg (j:=0) (by simp) (by simp) .nilp
  · by_cases hb:b=[]
    · subst hb
      rw[if_neg ha,if_pos rfl]
      exact .agg (j:=0) (by simp) (by simp) .pnil
    · rw[if_neg ha,if_neg hb]
      by_cases e:a.length=b.length
      · obtain⟨j,h1,h2,h3⟩:=list_apart a b e h
        exact .agg (j:=0) (by simp) (by simp) (.pp (j:=j) (by simpa using h1) (by simpa using h2) (by simpa using h3))
      · refine .agg (j:=1) (by simp) (by simp) (.v (fun c=>e ?_))
        simp only[List.getElem_cons_succ,List.getElem_cons_zero,Value.int.injEq,true_and] at c
        omega
@[simp] theorem spanC_len (l:List Val):(spanC l).length=2:=by unfold spanC;split<;>rfl
theorem span_key {T:TypeId} (hT:spanT Tryz.prog T=true) (l:List Val):keyD Tryz.prog T (.agg (spanC l))=true:=by
  unfold spanC
  split
  · simp[keyD,hT,ptrD,intD]
  · rename_i h
    cases l with
    | nil=>exact absurd rfl h
    | cons v r=>cases v;simp[keyD,hT,ptrD,intD,valsCells,Val.cells]
theorem p_spanOf (l:List Val) (hl:l.length≤4611686018427387904):PCall Tryz.prog gl 99 [valsD l] (.agg (spanC l)):=by
  refine PCall.by_ (md:=[]) Tryz.func99 rfl (by kernel_rfl) (n:=12) Tryz.ntmps99 (by simp) (by decide) rfl ?_
  simp
  refine BrT.dec (fun c=>?_) (fun c=>?_)
  · subst c
    simp[spanC]
  · have h0:0<l.length:=List.length_pos_iff.2 c
    have hlen:=valsCells_len l
    simp[c,spanC,h0,hlen]
def chD:List (List Val×List D)→D
  | []=>.v (.pointer none)
  | (l,m)::r=>.pp (spanC l++[.ps m l.length,chD r]) 0
theorem At.app2 {S:St}{lo mid hi:Nat}{a b:List Ld} (ha:At S mid hi a) (hb:At S lo mid b) (h1:lo≤mid) (h2:mid≤hi):At S lo hi (a++b):=by
  refine⟨fun p hp=>?_,?_,fun p hp=>?_⟩
  · rw[varsL_app] at hp
    rcases List.mem_append.1 hp with hp | hp
    · exact ha.has p hp
    · exact hb.has p hp
  · rw[varsL_app,List.map_append]
    refine List.nodup_append.2 ⟨ha.nodup,hb.nodup,fun x hx y hy e=>?_⟩
    obtain⟨p,hp,rfl⟩:=List.mem_map.1 hx
    obtain⟨q,hq,rfl⟩:=List.mem_map.1 hy
    have:=ha.rng p hp
    have:=hb.rng q hq
    omega
  · rw[varsL_app] at hp
    rcases List.mem_append.1 hp with hp | hp
    · have:=ha.rng p hp;omega
    · have:=hb.rng p hp;omega
@[simp] theorem chD_one (ch:List (List Val×List D)):(SV.d (chD ch)).one=true:=by
  cases ch with
  | nil=>rfl
  | cons p r=>rfl
@[simp] theorem chD_cells (ch:List (List Val×List D)):(SV.d (chD ch)).cells=[.d (chD ch)]:=by
  cases ch with
  | nil=>rfl
  | cons p r=>rfl
theorem frz_d' {B:Nat→Option (List SV)} (k:Nat) (x:D):frz B (k+1) (.d x)=some x:=rfl
theorem frz_op' {B:Nat→Option (List SV)}{k b off:Nat}{cs:List SV}{ds:List D} (h:B b=some cs) (h':mapO (frz B k) cs=some ds):frz B (k+1) (.op b off)=some (.pp ds off):=by
  show (match B b with | some cs=>(mapO (frz B k) cs).map fun ds=>D.pp ds off | none=>none)=_
  rw[h]
  show (mapO (frz B k) cs).map _=_
  rw[h'];rfl
theorem mapO_d' {B:Nat→Option (List SV)} (k:Nat) (cs:List D):mapO (frz B (k+1)) (cs.map .d)=some cs:=by
  induction cs with
  | nil=>rfl
  | cons x r ih=>simp only[List.map_cons,mapO,frz_d',ih]
theorem frz_ag' {B:Nat→Option (List SV)}{k:Nat}{cs:List SV}{ds:List D} (h:mapO (frz B k) cs=some ds):frz B (k+1) (.ag cs)=some (.agg ds):=by
  show (mapO (frz B k) cs).map D.agg=_
  rw[h];rfl
theorem mapO_cons' {α β:Type}{f:α→Option β}{x:α}{r:List α}{y:β}{ys:List β} (h:f x=some y) (h':mapO f r=some ys):mapO f (x::r)=some (y::ys):=by
  simp only[mapO,h,h']
abbrev zL:List Ld:=[.d (.int .i64 0), .d (.int .i64 0), .d (.string ⟨#[]⟩), .nil, .nil]
theorem rowC_ld (cs:List Ld) (m:Nat):rowC (svs cs) zV m=svs (cs++(List.replicate m zL).flatten):=by
  rw[rowC,svs_app]
  congr 1
  induction m with
  | zero=>rfl
  | succ m ih=>rw[List.replicate_succ,List.replicate_succ,List.flatten_cons,List.flatten_cons,svs_app,ih];rfl
theorem zL_vars (m:Nat):varsL (List.replicate m zL).flatten=[]:=by
  induction m with
  | zero=>rfl
  | succ m ih=>rw[List.replicate_succ,List.flatten_cons,varsL_app,ih];rfl
@[simp] theorem take_span (l:List Val):((spanC l).map SV.d).take 2=(spanC l).map SV.d:=List.take_of_length_le (by simp)
noncomputable def chMu (E:Env) (S:St):Nat:=match E 7 with | some (.d x)=>SizeOf.sizeOf x | _=>0
theorem chMu_lt {l:List Val}{m:List D}{r:List (List Val×List D)}{E E':Env}{S S':St} (h:E 7=some (.d (chD ((l,m)::r)))) (h':E' 7=some (.d (chD r))):chMu E' S'<chMu E S:=by
  unfold chMu
  rw[h,h']
  simp only[chD]
  have:SizeOf.sizeOf (chD r)<SizeOf.sizeOf (spanC l++[.ps m l.length,chD r]):=List.sizeOf_lt_of_mem (by simp)
  simp only[D.pp.sizeOf_spec]
  omega
set_option maxHeartbeats 1000000 in
theorem gz_copyTexts (l:List ByteArray) (hl:l.length≤1048576):rowF1 gl 265 [namesD l] (skT l):=by
  refine FCall.by_ (md:=[1000009]) Tryz.func265 rfl (by kernel_rfl) (n:=14) Tryz.ntmps265 (by simp) (by decide) rfl ?_
  simp
  refine BrT.dec (fun c=>?_) (fun c=>?_)
  · subst c
    simp
    exact fin_1 (x:=.nil) (sk:=.nil) ((At.cons_nil .nil:At _ 0 0 _)) rfl rfl
  · have h0:l.length≠0:=fun e=>c (List.eq_nil_of_length_eq_zero e)
    simp[c]
    have hsh:skT l=.row (some 1) l.length (txK l):=skZ_pos h0
    rw[hsh]
    exact⟨by omega,by omega,fin_1 (lo:=6) (hi:=7) (x:=.row (some 1) 6 l.length (ldT l)) (.row (by simp[svs]) (by omega) (by omega) (ldT_at l) (by rw[ldT_vars];simp)) (by simp only[Ld.sh,ldT_sh]) rfl⟩
theorem frz_sk' {B:Nat→Option (List SV)}{k b n z:Nat}{cs:List SV}{ds:List D} (h:B b=some cs) (h':mapO (frz B k) cs=some ds):frz B (k+1) (.sk b n z)=some (.ps ds n):=by
  show (match B b with | some cs=>(mapO (frz B k) cs).map fun ds:List D=>D.ps ds n | none=>none)=_
  rw[h]
  show (mapO (frz B k) cs).map _=_
  rw[h'];rfl
theorem frz_chainZ {B:Nat→Option (List SV)}{u w z:Nat}{l:List Val}{ch:List (List Val×List D)}{cs:List Ld} (hu:B u=some [.d (.pp (valsCells l) 0), .d (dI l.length), .sk w l.length z, .d (chD ch)]) (hw:B w=some (svs cs)) (hv:∀ p∈varsL cs,B p.1=some p.2) (hne:l≠[]) :
    frz B (depL (shs cs)+3) (.op u 0)=some (chD ((l,dataL (shs cs))::ch)):=by
  have h1:=(frz_lds cs (depL (shs cs)+1) hv (by omega)).1
  have h2:=frz_sk' (n:=l.length) (z:=z) hw h1
  have h3:=mapO_cons' (frz_d' (B:=B) (depL (shs cs)+1) (.pp (valsCells l) 0)) (mapO_cons' (frz_d' _ (dI l.length)) (mapO_cons' h2 (mapO_cons' (r:=[]) (frz_d' _ (chD ch)) rfl)))
  rw[frz_op' hu h3]
  simp[chD,spanC,if_neg hne]
set_option maxHeartbeats 4000000 in
theorem gz_copyWithin (hcl:gl cleanAt≠none) (v:Val) (hv:Small v) (ch:List (List Val×List D)) (hch:∀ p∈ch,SizeOf.sizeOf v<SizeOf.sizeOf p.1):valZ gl 323 [v.d,chD ch] v:=by
  match v,hv with
  | .mk k n t l ns, .mk ht hn hns hl hwf =>
    have ih:∀ i (hi:i<l.length) (m:List D),valZ gl 323 [l[i].d,chD ((l,m)::ch)] l[i]:=fun i hi m =>
      have h1:=List.sizeOf_lt_of_mem (List.getElem_mem hi)
      gz_copyWithin hcl l[i] (hwf _ (List.getElem_mem hi)) _ (fun p hp=>by
        rcases List.mem_cons.1 hp with rfl | hp
        · exact h1
        · have:=hch p hp
          simp only[Val.mk.sizeOf_spec] at this
          omega)
    have hap:∀ p∈ch,p.1≠l:=fun p hp e=>by
      have:=hch p hp
      rw[e] at this
      simp only[Val.mk.sizeOf_spec] at this
      omega
    clear hch
    refine FCall.by_ (md:=[1000051]) Tryz.func323 rfl (by kernel_rfl) (n:=76) Tryz.ntmps323 (by simp) (by decide) rfl ?_
    simp[Val.cells]
    refine⟨DrawT.ol [((1,2),10),((3,2),10),((5,2),10),((7,2),10)] (by kernel_rfl) (by simp),?_⟩
    refine CallT.o (n:=40) [((1,2),8),((3,2),8),((5,2),8)] (gz_copyTexts ns hn) (by first | rfl | (simp;done)|(simp;done)) (by kernel_rfl) (by kernel_rfl) (by first | (simp[Eh.e];done)|(simp[Eh.e];done)|(simp[Eh.e];omega)) (by first | (simp[Ar.a];done)|(simp[Ar.a];omega)) (fun B' hB'=>by first | rfl | (simp;done)|(simp[hB'];done)|(simp[hB'];done)) ?_
    simp[ Val.cells]
    refine BrT.dec (fun c=>?_) (fun c=>?_)
    · subst c
      simp
      refine fin_ag (lo:=14) (cs:=[.d (.int .i64 k), .d (.int .i64 n), .d (.string t), .nil]++canL 14 [skT ns]) (.cons_d (.cons_d (.cons_d (.cons_nil (At.new ?_))))) ?_ ?_
      · intro b h1 h2
        ((try simp);(repeat first | rw[if_neg (by omega)] | rw[if_pos (by omega)]);(try (intro h;exfalso;omega)))
      · simp[shs_app,canL_shs,shs,Ld.sh,Val.sz]
      · simp[canL]
    · simp[c]
      repeat refine⟨DrawT.mk (by kernel_rfl),?_⟩
      refine CallT.p0 (p_spanOf l (by omega)) (by first | rfl | (simp;done)|(simp[c];done)) (by first | rfl | (simp;done)|(simp;rfl)|(simp[c];done)) ?_
      simp[c]
      obtain⟨K,hK⟩:∃ K,cntL [skT ns]=K:=⟨_,rfl⟩
      obtain⟨q,hq⟩:∃ q,q=14+K+4+3:=⟨_,rfl⟩
      simp only[hK, ← hq]
      refine LoopT.round (fun E S=>∃ (rest:List (List Val×List D)),(∀ p∈rest,p.1≠l)∧E 1=some (.d (chD ch))∧E 2=some (.op 0 0)∧E 4=some (.op 1 0)∧E 5=some (.op 12 0)∧E 6=some (.op q 0)∧E 7=some (.d (chD rest))∧S.B 0=some ([.d (dI k), .d (dI n), .d (dS t), .d (valsD l), .d (namesD ns)])∧S.B 1=some (zV)∧S.B 12=some ([.d (dI k), .d (dI n), .d (dS t), .fl [] 0,(Sk.can 14 (skT ns)).sv])∧S.B q=some ((spanC l).map .d)∧(At S 14 (14+K) (canL 14 [skT ns]))∧(q+1≤S.nx)) (chMu) ⟨ch,hap,by simp[c];exact⟨by ((try simp);(repeat first | rw[if_neg (by omega)] | rw[if_pos (by omega)]);(try (intro h;exfalso;omega))),by ((try simp);(repeat first | rw[if_neg (by omega)] | rw[if_pos (by omega)]);(try (intro h;exfalso;omega))),by ((try simp);(repeat first | rw[if_neg (by omega)] | rw[if_pos (by omega)]);(try (intro h;exfalso;omega))),hK▸At.new fun b h1 h2=>(by ((try simp);(repeat first | rw[if_neg (by omega)] | rw[if_pos (by omega)]);(try (intro h;exfalso;omega)))),by omega⟩⟩ ?_
      rintro E S hk ⟨rest,hr,h1,h2,h4,h5,h6,h7,hB0,hB1,hB12,hBq,ha,hx⟩
      have hn:S.n=76:=by first | (simpa using hk.n)|(have hh:=hk.n;simp[c] at hh;exact hh)
      have hg:S.gl=gl:=by first | (simpa using hk.gl)|(have hh:=hk.gl;simp[c] at hh;exact hh)
      have hmd:S.md=[1000051]:=by first | (simpa using hk.md)|(have hh:=hk.md;simp[c] at hh;exact hh)
      simp[c,h1,h2,h4,h5,h6,h7,hB0,hB1,hB12,hBq,hn,hg,hmd]
      cases rest with
      | nil =>
        have n7:¬ S.nx=7:=by omega
        have nq:¬ q=S.nx+2+3:=by omega
        have n12:¬ q=12:=by omega
        have hsp:spanC l=[.pp (valsCells l) 0,dI l.length]:=if_neg c
        simp[c,h1,h2,h4,h5,h6,h7,hB0,hB1,hB12,hBq,hn,hg,hmd,n7,nq,n12,hsp,chD]
        refine⟨by omega,?_⟩
        obtain⟨w,hw⟩:∃ w,S.nx+2+3=w:=⟨_,rfl⟩
        obtain⟨u,hu⟩:∃ u,S.nx+2+6+5=u:=⟨_,rfl⟩
        simp only[hw,hu]
        refine LoopT.round (fun E S=>∃ (i:Nat) (done:List Ld),(i≤l.length)∧E 4=some (.op 1 0)∧E 5=some (.op 12 0)∧E 8=some (.op u 0)∧E 60=some (.d (valsD l))∧E 61=some (.d (dI l.length))∧E 62=some (.d (dI i))∧S.B 1=some (zV)∧S.B 12=some ([.d (dI k), .d (dI n), .d (dS t), .sk w l.length 5,(Sk.can 14 (skT ns)).sv])∧S.B u=some ([.d (.pp (valsCells l) 0), .d (dI l.length), .sk w l.length 5, .d (chD ch)])∧S.B w=some (rowC (svs done) zV (l.length - i))∧(At S 14 (14+K) (canL 14 [skT ns]))∧(shs done=valsZ (l.take i))∧(At S (u+1) S.nx done)∧(u+1≤S.nx)) (upTo 62 l.length) ⟨0,[],by simp[c,h1,h2,h4,h5,h6,h7,hB0,hB1,hB12,hBq,hn,hg,hmd,n7,nq,n12,hsp];exact⟨by ((try simp);(repeat first | rw[if_neg (by omega)] | rw[if_pos (by omega)]);(try (intro h;exfalso;omega))),by omega,by rw[if_neg (by omega),if_neg (by omega)];simp[rowC,madeS_zV],ha.keep (fun b h1 h2=>by ((try simp);(repeat first | rw[if_neg (by omega)] | rw[if_pos (by omega)]);(try (intro h;exfalso;omega)))),rfl, .nil,by omega⟩⟩ ?_
        rintro E S hk ⟨i,done,hi,h4,h5,h8,h60,h61,h62,hB1,hB12,hBu,hBw,ha,hd,hat,hx⟩
        have hn:S.n=76:=by first | (simpa using hk.n)|(have hh:=hk.n;simp[c,h1,h2,h4,h5,h6,h7,hB0,hB1,hB12,hBq,hn,hg,hmd,n7,nq,n12,hsp] at hh;exact hh)
        have hg:S.gl=gl:=by first | (simpa using hk.gl)|(have hh:=hk.gl;simp[c,h1,h2,h4,h5,h6,h7,hB0,hB1,hB12,hBq,hn,hg,hmd,n7,nq,n12,hsp] at hh;exact hh)
        have hmd:S.md=[1000051]:=by first | (simpa using hk.md)|(have hh:=hk.md;simp[c,h1,h2,h4,h5,h6,h7,hB0,hB1,hB12,hBq,hn,hg,hmd,n7,nq,n12,hsp] at hh;exact hh)
        simp[c,h1,h2,h4,h5,h6,h7,hB0,hB1,hB12,hBq,hn,hg,hmd,n7,nq,n12,hsp,h4,h5,h8,h60,h61,h62,hB1,hB12,hBu,hBw,hn,hg,hmd]
        have w1:=wrap64 (n:=(i:Int)+1) (by omega) (by omega)
        have hA:(svs done).length=i*5:=by rw[svs_len, ← shs_len,hd,valsZ_len,List.length_take];congr 1;omega
        have hf:=rowC_len (k:=5) (z:=zV) rfl hA hi
        have nw:∀ a,¬ w=S.nx+a:=fun a=>by omega
        have nu:∀ a,¬ u=S.nx+a:=fun a=>by omega
        refine BrT.dec (fun c2=>?_) (fun c2=>?_)
        · have hi2:i<l.length:=by omega
          have hlen:=valsCells_len l
          have hfit:i*5+5≤l.length*5:=by omega
          have hnext:=fun X=>rowC_next (k:=5) (z:=zV) (X:=X) rfl hA hi2
          have n8:¬ S.nx=8:=by omega
          simp[c,h1,h2,h4,h5,h6,h7,hB0,hB1,hB12,hBq,hn,hg,hmd,n7,nq,n12,hsp,h4,h5,h8,h60,h61,h62,hB1,hB12,hBu,hBw,hn,hg,hmd,c2,hi2,w1,hf,hlen,hfit,valsCells_at,n8,cells_len]
          refine⟨DrawT.mk (by kernel_rfl),?_⟩
          have nw2:∀ a b,¬ w=S.nx+a+b:=fun a b=>by omega
          have nu2:∀ a b,¬ u=S.nx+a+b:=fun a b=>by omega
          refine CallT.o (n:=depL (shs (done++(List.replicate (l.length - i) zL).flatten))+3) [((1,5),5)] (ih i hi2 (dataL (shs (done++(List.replicate (l.length - i) zL).flatten)))) (by simp[c,h1,h2,h4,h5,h6,h7,hB0,hB1,hB12,hBq,hn,hg,hmd,n7,nq,n12,hsp,h4,h5,h8,h60,h61,h62,hB1,hB12,hBu,hBw,hn,hg,hmd,c2,hi2,w1,hf,hlen,hfit,valsCells_at,n8,cells_len,nw,nu,nw2,nu2]) (by kernel_rfl) (by kernel_rfl) (by simp[c,h1,h2,h4,h5,h6,h7,hB0,hB1,hB12,hBq,hn,hg,hmd,n7,nq,n12,hsp,h4,h5,h8,h60,h61,h62,hB1,hB12,hBu,hBw,hn,hg,hmd,c2,hi2,w1,hf,hlen,hfit,valsCells_at,n8,cells_len,nw,nu,nw2,nu2,Eh.e];omega) (by simp[Ar.a]) (fun B' hB'=>?_) ?_
          · refine mapO_cons' (frz_ag' (mapO_d' _ _)) (mapO_cons' (r:=[]) (frz_chainZ (w:=w) (z:=5) ?_ ?_ ?_ c) rfl)
            · rw[hB' u (by omega)];((try simp);(repeat first | rw[if_neg (by omega)] | rw[if_pos (by omega)]);(try (intro h;exfalso;omega)));exact hBu
            · rw[hB' w (by omega), ← rowC_ld];((try simp);(repeat first | rw[if_neg (by omega)] | rw[if_pos (by omega)]);(try (intro h;exfalso;omega)));exact hBw
            · intro p hp
              rw[varsL_app,zL_vars,List.append_nil] at hp
              have:=hat.rng p hp
              rw[hB' p.1 (by omega)];((try simp);(repeat first | rw[if_neg (by omega)] | rw[if_pos (by omega)]);(try (intro h;exfalso;omega)));exact hat.has p hp
          have nwl:w<S.nx+1+6+8:=by omega
          simp[c,h1,h2,h4,h5,h6,h7,hB0,hB1,hB12,hBq,hn,hg,hmd,n7,nq,n12,hsp,h4,h5,h8,h60,h61,h62,hB1,hB12,hBu,hBw,hn,hg,hmd,c2,hi2,w1,hf,hlen,hfit,valsCells_at,n8,cells_len,nw,nu,nw2,nu2,nwl]
          refine⟨⟨i+1,hi2,by omega,fun e=>absurd e (by omega),fun e=>absurd e (by omega),by ((try simp);(repeat first | rw[if_neg (by omega)] | rw[if_pos (by omega)]);(try (intro h;exfalso;omega))),done++canL (S.nx+1+6+8) (l[i].sz),?_,?_,?_,?_,by omega⟩,upTo_lt h62 (by simp) hi2⟩
          · rw[svs_app, ← hnext];simp
          · exact ha.keep fun b h1 h2=>by ((try simp);(repeat first | rw[if_neg (by omega)] | rw[if_pos (by omega)]);(try (intro h;exfalso;omega)))
          · rw[shs_app,hd,canL_shs,List.take_succ_eq_append_getElem hi2,valsZ_app];simp[valsZ]
          · refine At.app (mid:=S.nx+1+6+8) ?_ ?_ (by omega) (by omega)
            · exact (hat.keep fun b h1 h2=>by ((try simp);(repeat first | rw[if_neg (by omega)] | rw[if_pos (by omega)]);(try (intro h;exfalso;omega)))).le (by omega) (by omega)
            · exact (At.new fun b h1 h2=>by ((try simp);(repeat first | rw[if_neg (by omega)] | rw[if_pos (by omega)]);(try (intro h;exfalso;omega)))).le (by omega) (by omega)
        · have hi3:i=l.length:=by omega
          subst hi3
          rw[List.take_length] at hd
          rw[rowC_all] at hBw
          simp[c,h1,h2,h4,h5,h6,h7,hB0,hB1,hB12,hBq,hn,hg,hmd,n7,nq,n12,hsp,h4,h5,h8,h60,h61,h62,hB1,hB12,hBu,hBw,hn,hg,hmd,c2]
          refine fin_ag (lo:=14) (hi:=S.nx) (cs:=[.d (.int .i64 k), .d (.int .i64 n), .d (.string t)]++([.row (some 5) w l.length done]++canL 14 [skT ns])) (.cons_d (.cons_d (.cons_d (.app2 (mid:=14+K) (.row (by ((try simp);(repeat first | rw[if_neg (by omega)] | rw[if_pos (by omega)]);(try (intro h;exfalso;omega)));exact hBw) (by omega) (by omega) ((hat.keep fun b h1 h2=>by ((try simp);(repeat first | rw[if_neg (by omega)] | rw[if_pos (by omega)]);(try (intro h;exfalso;omega)))).le (by omega) (by omega)) (fun p hp=>by have:=hat.rng p hp;omega)) (ha.keep fun b h1 h2=>by ((try simp);(repeat first | rw[if_neg (by omega)] | rw[if_pos (by omega)]);(try (intro h;exfalso;omega)))) (by omega) (by omega))))) ?_ ?_
          · have h0:l.length≠0:=fun e=>c (List.eq_nil_of_length_eq_zero e)
            simp[shs_app,canL_shs,shs,Ld.sh,Val.sz,hd,skZ_pos h0]
          · simp[canL]
      | cons p r =>
        obtain⟨pl,pm⟩:=p
        simp[c,h1,h2,h4,h5,h6,h7,hB0,hB1,hB12,hBq,hn,hg,hmd,chD]
        refine⟨DrawT.mk (by kernel_rfl),OpT_apart rfl hcl (x:=.agg (spanC pl)) (y:=.agg (spanC l)) rfl (by simp) (by kernel_rfl) (span_key (by kernel_rfl) _) (span_key (by kernel_rfl) _) (span_apart (hr (pl,pm) (by simp))) ?_⟩
        simp[c,h1,h2,h4,h5,h6,h7,hB0,hB1,hB12,hBq,hn,hg,hmd,chD]
        exact⟨⟨r,fun a b hab=>hr (a,b) (by simp[hab]),rfl,ha.mono rfl,by omega⟩,chMu_lt h7 (by simp)⟩
  termination_by SizeOf.sizeOf v
  decreasing_by
  simp only[Val.mk.sizeOf_spec]
  omega
set_option maxHeartbeats 1000000 in
theorem gz_copyValue (hcl:gl cleanAt≠none) (v:Val) (hv:Small v):valZ gl 282 [v.d] v:=by
  refine FCall.by_ (md:=[]) Tryz.func282 rfl (by kernel_rfl) (n:=5) Tryz.ntmps282 (by simp) (by decide) rfl ?_
  simp[chD,cells_len]
  repeat refine⟨DrawT.mk (by kernel_rfl),?_⟩
  refine CallT.f (n:=40) (gz_copyWithin hcl v hv [] (by simp)) (by first | rfl | (simp;done)|(simp[chD,cells_len];done)) (by first | rfl | kernel_rfl) (by first | rfl | (simp;done)|(simp[chD,cells_len];done)) ?_
  simp[chD,cells_len]
  exact fin_ag (lo:=5) (At.new fun b h1 h2=>by ((try simp);(repeat first | rw[if_neg (by omega)] | rw[if_pos (by omega)]);(try (intro h;exfalso;omega)))) (canL_shs _ _) rfl
theorem typ_svsZ (t:ByteArray) (l:List Typ) (b:Bool) (q:Nat):svs (canL q (Typ.sz (.mk t l b)))=[.d (dS t),((skZ 3 l.length (typsZ l)).can q).sv, .d (dB b)]:=by simp[Typ.sz,canL,Sk.can,Sk.cnt]
theorem val_svsZ (k n:Int) (t:ByteArray) (l:List Val) (ns:List ByteArray) (q:Nat):svs (canL q (Val.sz (.mk k n t l ns)))=[.d (dI k), .d (dI n), .d (dS t),((skZ 5 l.length (valsZ l)).can q).sv,((skT ns).can (q+(skZ 5 l.length (valsZ l)).cnt)).sv]:=by simp[Val.sz,canL,Sk.can,Sk.cnt]
def ArgOne (a:Arg):Prop:=TOne a.ty∧Small a.els
set_option maxHeartbeats 4000000 in
theorem gz_copyArgs (hcl:gl cleanAt≠none) (l:List Arg) (hl:l.length≤1048576) (hs:∀ a∈l,ArgOne a):rowF1 gl 263 [argsD l] (skZ 10 l.length (rowsZ Arg.sz l)):=by
  refine FCall.by_ (md:=[1000025,1000026]) Tryz.func263 rfl (by kernel_rfl) (n:=29) Tryz.ntmps263 (by simp) (by decide) rfl ?_
  simp
  refine LoopT.round (fun E S=>∃ (i:Nat) (x:Ld),(i≤l.length)∧E 3=some (x.sv)∧E 7=some (.d (argsD l))∧E 8=some (.d (dI l.length))∧E 9=some (.d (dI i))∧(x.sh=skZ 10 i (rowsZ Arg.sz (l.take i)))∧(At S 0 S.nx [x])) (upTo 9 l.length) ⟨0, .nil,by simp;exact⟨by simp[Ld.sh], .cons_nil .nil⟩⟩ ?_
  rintro E S hk ⟨i,x,hi,h3,h7,h8,h9,hX,ha⟩
  have hn:S.n=29:=by first | (simpa using hk.n)|(have hh:=hk.n;simp at hh;exact hh)
  have hg:S.gl=gl:=by first | (simpa using hk.gl)|(have hh:=hk.gl;simp at hh;exact hh)
  have hmd:S.md=[1000025,1000026]:=by first | (simpa using hk.md)|(have hh:=hk.md;simp at hh;exact hh)
  simp[h3,h7,h8,h9,hn,hg,hmd]
  have w:=wrap64 (n:=(i:Int)+1) (by omega) (by omega)
  obtain⟨o1,o2,o3⟩:=z_one hX
  refine BrT.dec (fun c=>?_) (fun c=>?_)
  · have hi2:i<l.length:=by omega
    have hlen:=args_len l
    have hfit:i*10+10≤l.length*10:=by omega
    have hat:=args_at l hi2
    have hvn:=rowsZ_next Arg.sz l hi2
    obtain⟨hty,hel⟩:=hs _ (List.getElem_mem hi2)
    generalize l[i]=a at hat hvn hty hel
    obtain⟨name,ty,has,els⟩:=a
    simp only at hty hel
    have g1:=g_copyType (gl:=gl) ty hty
    have g2:=gz_copyValue hcl els hel
    cases ty with
    | mk tt tl tb =>
    cases els with
    | mk ek en et el ens =>
    have hT:=typ_svsZ tt tl tb
    have hV:=val_svsZ ek en et el ens
    simp[h3,h7,h8,h9,hn,hg,hmd,c,hi2,w,hlen,hfit,hat,Arg.cells,Typ.cells,Val.cells,hT,hV,can_sv,o1,o2]
    refine⟨DrawT.mk (by kernel_rfl),?_⟩
    refine CallT.o (n:=40) [((2,5),5),((7,5),5),((9,5),5)] (g1) (by first | rfl | (simp;done)|(simp[h3,h7,h8,h9,hn,hg,hmd,c,hi2,w,hlen,hfit,hat,Arg.cells,Typ.cells,Val.cells,hT,hV,can_sv,o1,o2];done)) (by kernel_rfl) (by kernel_rfl) (by first | (simp[Eh.e];done)|(simp[h3,h7,h8,h9,hn,hg,hmd,c,hi2,w,hlen,hfit,hat,Arg.cells,Typ.cells,Val.cells,hT,hV,can_sv,o1,o2,Eh.e];done)|(simp[h3,h7,h8,h9,hn,hg,hmd,c,hi2,w,hlen,hfit,hat,Arg.cells,Typ.cells,Val.cells,hT,hV,can_sv,o1,o2,Eh.e];omega)) (by first | (simp[Ar.a];done)|(simp[Ar.a];omega)) (fun B' hB'=>by first | rfl | (simp;done)|(simp[hB'];done)|(simp[h3,h7,h8,h9,hn,hg,hmd,c,hi2,w,hlen,hfit,hat,Arg.cells,Typ.cells,Val.cells,hT,hV,can_sv,o1,o2,hB'];done)) ?_
    simp[h3,h7,h8,h9,hn,hg,hmd,c,hi2,w,hlen,hfit,hat,Arg.cells,Typ.cells,Val.cells,hT,hV,can_sv,o1,o2]
    refine CallT.o (n:=40) [((2,5),10),((7,5),10)] (g2) (by first | rfl | (simp;done)|(simp[h3,h7,h8,h9,hn,hg,hmd,c,hi2,w,hlen,hfit,hat,Arg.cells,Typ.cells,Val.cells,hT,hV,can_sv,o1,o2];done)) (by kernel_rfl) (by kernel_rfl) (by first | (simp[Eh.e];done)|(simp[h3,h7,h8,h9,hn,hg,hmd,c,hi2,w,hlen,hfit,hat,Arg.cells,Typ.cells,Val.cells,hT,hV,can_sv,o1,o2,Eh.e];done)|(simp[h3,h7,h8,h9,hn,hg,hmd,c,hi2,w,hlen,hfit,hat,Arg.cells,Typ.cells,Val.cells,hT,hV,can_sv,o1,o2,Eh.e];omega)) (by first | (simp[Ar.a];done)|(simp[Ar.a];omega)) (fun B' hB'=>by first | rfl | (simp;done)|(simp[hB'];done)|(simp[h3,h7,h8,h9,hn,hg,hmd,c,hi2,w,hlen,hfit,hat,Arg.cells,Typ.cells,Val.cells,hT,hV,can_sv,o1,o2,hB'];done)) ?_
    simp[h3,h7,h8,h9,hn,hg,hmd,c,hi2,w,hlen,hfit,hat,Arg.cells,Typ.cells,Val.cells,hT,hV,can_sv,o1,o2]
    obtain⟨K1,hK1⟩:∃ K1,cntL (Typ.sz (.mk tt tl tb))=K1:=⟨_,rfl⟩
    obtain⟨K2,hK2⟩:∃ K2,cntL (Val.sz (.mk ek en et el ens))=K2:=⟨_,rfl⟩
    obtain⟨q1,hq1⟩:∃ q1,S.nx+1+4+15=q1:=⟨_,rfl⟩
    obtain⟨N,hN⟩:∃ N:List Ld,N=.d (.string name)::(canL q1 (Typ.sz (.mk tt tl tb))++.d (.bool has)::canL (q1+K1) (Val.sz (.mk ek en et el ens))):=⟨_,rfl⟩
    have hNs:svs N=[.d (dS name), .d (dS tt),((skZ 3 tl.length (typsZ tl)).can q1).sv, .d (dB tb), .d (dB has), .d (dI ek), .d (dI en), .d (dS et),((skZ 5 el.length (valsZ el)).can (q1+K1)).sv,((skT ens).can (q1+K1+(skZ 5 el.length (valsZ el)).cnt)).sv]:=by rw[hN];simp[hT,hV]
    have hNh:shs N=Arg.sz ⟨name, .mk tt tl tb,has, .mk ek en et el ens⟩:=by rw[hN];simp[shs_app,canL_shs,shs,Ld.sh,Arg.sz]
    have hNa:∀ S':St,(∀ b,q1≤b→b<q1+K1→S'.B b=(newL (Typ.sz (.mk tt tl tb)) (b - q1)).map (·.map (SV.shift q1)))→(∀ b,q1+K1≤b→b<q1+K1+K2→S'.B b=(newL (Val.sz (.mk ek en et el ens)) (b - (q1+K1))).map (·.map (SV.shift (q1+K1))))→At S' q1 (q1+K1+K2) N:=fun S' h1 h2=>by
      rw[hN]
      exact .cons_d (.app (mid:=q1+K1) (hK1▸At.new (by rw[hK1];exact h1)) (.cons_d (hK2▸At.new (by rw[hK2];exact h2))) (by omega) (by omega))
    have hNr:∀ p∈varsL N,q1≤p.1:=fun p hp=>by
      rw[hN] at hp
      simp only[varsL,Ld.vars,List.nil_append,varsL_app,List.mem_append] at hp
      rcases hp with hp | hp
      · have:=canL_rng hp;omega
      · have:=canL_rng hp;omega
    simp only[hK1,hK2,hq1]
    rcases ld_z hX with ⟨rfl,h0⟩ | ⟨b',cs,rfl,hsc,hpos⟩
    · simp[h3,h7,h8,h9,hn,hg,hmd,c,hi2,w,hlen,hfit,hat,Arg.cells,Typ.cells,Val.cells,hT,hV,can_sv,o1,o2]
      refine⟨by unfold appBound;omega,⟨i+1,hi2, .row (some 10) (S.nx+1+4+13) 1 N,rfl,by omega,?_,?_⟩,upTo_lt h9 (by simp) hi2⟩
      · subst h0
        exact row_sh (by rw[hNh,hvn];simp[rowsZ]) (by omega)
      · refine .row (by rw[hNs];simp) (by omega) (by omega) ((hNa _ ?_ ?_).le (by omega) (by omega)) (fun p hp=>by have:=hNr p hp;omega)
        · intro b h1 h2;(((try simp);(repeat first | rw[if_neg (by omega)] | rw[if_pos (by omega)]);(try (intro h;exfalso;omega))));simp only[hq1]
        · intro b h1 h2;(((try simp);(repeat first | rw[if_neg (by omega)] | rw[if_pos (by omega)]);(try (intro h;exfalso;omega))));simp only[hq1]
    · have hb:=ha.rng (b',svs cs) (by simp[varsL,Ld.vars])
      have hBb:=ha.has (b',svs cs) (by simp[varsL,Ld.vars])
      have hA:(svs cs).length=i*10:=by rw[svs_len, ← shs_len,hsc,rowsZ_len arg_szlen,List.length_take];congr 1;omega
      simp only at hb hBb
      have hlt:b'<q1:=by omega
      have htk:List.take (i*10) (svs cs)=svs cs:=List.take_of_length_le (by omega)
      have hlt2:b'<q1+K1:=by omega
      have nbx:¬ b'=S.nx+1+2:=by omega
      have nbx2:¬ S.nx+1+2=b':=by omega
      simp[h3,h7,h8,h9,hn,hg,hmd,c,hi2,w,hlen,hfit,hat,Arg.cells,Typ.cells,Val.cells,hT,hV,can_sv,o1,o2,hBb,hA,hlt,hlt2,htk,hq1,nbx,nbx2]
      refine⟨by unfold appBound;omega,⟨i+1,hi2, .row (some 10) (S.nx+1+4+13) (i+1) (cs++N),rfl,by omega,?_,?_⟩,upTo_lt h9 (by simp) hi2⟩
      · exact row_sh (by rw[shs_app,hNh,hvn,hsc]) (by omega)
      · refine ha.grow (lo2:=q1) (hi':=q1+K1+K2+2) ((hNa _ ?_ ?_).le (Nat.le_refl _) (by omega)) (by rw[svs_app,hNs];simp) ?_ (by omega) (by omega) (by omega) (by omega) (fun p hp=>by have:=hNr p hp;omega) (by omega)
        · intro b h1 h2;(((try simp);(repeat first | rw[if_neg (by omega)] | rw[if_pos (by omega)]);(try (intro h;exfalso;omega))));simp only[hq1]
        · intro b h1 h2;(((try simp);(repeat first | rw[if_neg (by omega)] | rw[if_pos (by omega)]);(try (intro h;exfalso;omega))));simp only[hq1]
        · intro x h1 h2 h3;((try simp);(repeat first | rw[if_neg (by omega)] | rw[if_pos (by omega)]);(try (intro h;exfalso;omega)))
  · have hi3:i=l.length:=by omega
    subst hi3
    rw[List.take_length] at hX
    simp[h3,h7,h8,h9,hn,hg,hmd,c,o1,o2,o3]
    exact fin_1 (ha.keep fun b h1 h2=>by ((try simp);(repeat first | rw[if_neg (by omega)] | rw[if_pos (by omega)]);(try (intro h;exfalso;omega)))) hX rfl
def DefOne (a:Def):Prop:=(a.flds.length≤1048576∧∀ f∈a.flds,TOne f.ty∧f.args.length≤1048576∧∀ x∈f.args,ArgOne x)∧a.words.length≤1048576
set_option maxHeartbeats 16000000 in
theorem gz_copyDefs (hcl:gl cleanAt≠none) (l:List Def) (hl:l.length≤1048576) (hs:∀ a∈l,DefOne a):rowF1 gl 193 [defsD l] (skDefs l):=by
  refine FCall.by_ (md:=[1000034,1000035,1000047,1000048]) Tryz.func193 rfl (by kernel_rfl) (n:=51) Tryz.ntmps193 (by simp) (by decide) rfl ?_
  simp
  refine LoopT.round (fun E S=>∃ (i:Nat) (x:Ld),(i≤l.length)∧E 3=some (x.sv)∧E 10=some (.d (defsD l))∧E 11=some (.d (dI l.length))∧E 12=some (.d (dI i))∧(x.sh=skZ 4 i (rowsZ Def.sz (l.take i)))∧(At S 0 S.nx [x])) (upTo 12 l.length) ⟨0, .nil,by simp;exact⟨by simp[Ld.sh], .cons_nil .nil⟩⟩ ?_
  rintro E S hk ⟨i,x,hi,h3,h10,h11,h12,hX,ha⟩
  have hn:S.n=51:=by first | (simpa using hk.n)|(have hh:=hk.n;simp at hh;exact hh)
  have hg:S.gl=gl:=by first | (simpa using hk.gl)|(have hh:=hk.gl;simp at hh;exact hh)
  have hmd:S.md=[1000034,1000035,1000047,1000048]:=by first | (simpa using hk.md)|(have hh:=hk.md;simp at hh;exact hh)
  simp[h3,h10,h11,h12,hn,hg,hmd]
  have w:=wrap64 (n:=(i:Int)+1) (by omega) (by omega)
  obtain⟨o1,o2,o3⟩:=z_one hX
  refine BrT.dec (fun c=>?_) (fun c=>?_)
  · have hi2:i<l.length:=by omega
    have hlen:=defs_len l
    have hfit:i*4+4≤l.length*4:=by omega
    have hat:=defs_at l hi2
    have hvn:=rowsZ_next Def.sz l hi2
    obtain⟨⟨hfl,hfs⟩,hwl⟩:=hs _ (List.getElem_mem hi2)
    generalize l[i]=a at hat hvn hfl hfs hwl
    obtain⟨dname,kind,fs,words⟩:=a
    simp only at hfl hfs hwl
    have o12:=h12
    obtain⟨N0,hN0⟩:∃ N0,S.nx=N0:=⟨_,rfl⟩
    obtain⟨v,hv⟩:∃ v,S.nx+1+2=v:=⟨_,rfl⟩
    simp[h3,h10,h11,h12,hn,hg,hmd,c,hi2,w,hlen,hfit,hat,Def.cells,o1,o2]
    simp only[hv]
    refine LoopT.round (fun E S=>∃ (j:Nat) (y:Ld),(j≤fs.length)∧E 3=some (x.sv)∧E 5=some (.op v 0)∧E 6=some (y.sv)∧E 10=some (.d (defsD l))∧E 11=some (.d (dI l.length))∧E 12=some (.d (dI i))∧E 18=some (.d (fldsD fs))∧E 19=some (.d (dI fs.length))∧E 20=some (.d (dI j))∧S.B v=some ([.d (dS dname), .d (dI kind), .d (fldsD fs), .d (namesD words)])∧(At S 0 N0 [x])∧(y.sh=skZ 5 j (rowsZ Fld.sz (fs.take j)))∧(At S (N0+4) S.nx [y])∧(N0+11≤S.nx)) (upTo 20 fs.length) ⟨0, .nil,by simp[h3,h10,h11,h12,hn,hg,hmd,c,hi2,w,hlen,hfit,hat,Def.cells,o1,o2];exact⟨At.keep (hi:=N0) (hN0▸ha) fun b h1 h2=>(by ((try simp);(repeat first | rw[if_neg (by omega)] | rw[if_pos (by omega)]);(try (intro h;exfalso;omega)))),by simp[Ld.sh], .cons_nil .nil,by omega⟩⟩ ?_
    rintro E S hk ⟨j,y,hj,h3,h5,h6,h10,h11,h12,h18,h19,h20,hBv,ha,hY,hb,hx⟩
    have hn:S.n=51:=by first | (simpa using hk.n)|(have hh:=hk.n;simp[h3,h10,h11,h12,hn,hg,hmd,c,hi2,w,hlen,hfit,hat,Def.cells,o1,o2] at hh;exact hh)
    have hg:S.gl=gl:=by first | (simpa using hk.gl)|(have hh:=hk.gl;simp[h3,h10,h11,h12,hn,hg,hmd,c,hi2,w,hlen,hfit,hat,Def.cells,o1,o2] at hh;exact hh)
    have hmd:S.md=[1000034,1000035,1000047,1000048]:=by first | (simpa using hk.md)|(have hh:=hk.md;simp[h3,h10,h11,h12,hn,hg,hmd,c,hi2,w,hlen,hfit,hat,Def.cells,o1,o2] at hh;exact hh)
    simp[h3,h10,h11,h12,hn,hg,hmd,c,hi2,w,hlen,hfit,hat,Def.cells,o1,o2,h3,h5,h6,h10,h11,h12,h18,h19,h20,hBv,hn,hg,hmd]
    have w2:=wrap64 (n:=(j:Int)+1) (by omega) (by omega)
    obtain⟨p1,p2,p3⟩:=z_one hY
    refine BrT.dec (fun c2=>?_) (fun c2=>?_)
    · have hj2:j<fs.length:=by omega
      have flen:=flds_len fs
      have ffit:j*5+5≤fs.length*5:=by omega
      have fat:=flds_at fs hj2
      have fvn:=rowsZ_next Fld.sz fs hj2
      obtain⟨fty1,fal,fas⟩:=hfs _ (List.getElem_mem hj2)
      generalize fs[j]=f at fat fvn fty1 fal fas
      obtain⟨fname,args,fty⟩:=f
      simp only at fty1 fal fas
      have g1:=gz_copyArgs hcl args fal fas
      have g2:=g_copyType (gl:=gl) fty fty1
      cases fty with
      | mk tt tl tb =>
      have hT:=typ_svsZ tt tl tb
      simp[h3,h10,h11,h12,hn,hg,hmd,c,hi2,w,hlen,hfit,hat,Def.cells,o1,o2,h3,h5,h6,h10,h11,h12,h18,h19,h20,hBv,hn,hg,hmd,p1,p2,c2,hj2,w2,flen,ffit,fat,Fld.cells,Typ.cells,hT,can_sv]
      refine⟨DrawT.mk (by kernel_rfl),?_⟩
      refine CallT.o (n:=40) [((2,8),5),((7,8),5)] (g1) (by first | rfl | (simp;done)|(simp[h3,h10,h11,h12,hn,hg,hmd,c,hi2,w,hlen,hfit,hat,Def.cells,o1,o2,h3,h5,h6,h10,h11,h12,h18,h19,h20,hBv,hn,hg,hmd,p1,p2,c2,hj2,w2,flen,ffit,fat,Fld.cells,Typ.cells,hT,can_sv];done)) (by kernel_rfl) (by kernel_rfl) (by first | (simp[Eh.e];done)|(simp[h3,h10,h11,h12,hn,hg,hmd,c,hi2,w,hlen,hfit,hat,Def.cells,o1,o2,h3,h5,h6,h10,h11,h12,h18,h19,h20,hBv,hn,hg,hmd,p1,p2,c2,hj2,w2,flen,ffit,fat,Fld.cells,Typ.cells,hT,can_sv,Eh.e];done)|(simp[h3,h10,h11,h12,hn,hg,hmd,c,hi2,w,hlen,hfit,hat,Def.cells,o1,o2,h3,h5,h6,h10,h11,h12,h18,h19,h20,hBv,hn,hg,hmd,p1,p2,c2,hj2,w2,flen,ffit,fat,Fld.cells,Typ.cells,hT,can_sv,Eh.e];omega)) (by first | (simp[Ar.a];done)|(simp[Ar.a];omega)) (fun B' hB'=>by first | rfl | (simp;done)|(simp[hB'];done)|(simp[h3,h10,h11,h12,hn,hg,hmd,c,hi2,w,hlen,hfit,hat,Def.cells,o1,o2,h3,h5,h6,h10,h11,h12,h18,h19,h20,hBv,hn,hg,hmd,p1,p2,c2,hj2,w2,flen,ffit,fat,Fld.cells,Typ.cells,hT,can_sv,hB'];done)) ?_
      simp[h3,h10,h11,h12,hn,hg,hmd,c,hi2,w,hlen,hfit,hat,Def.cells,o1,o2,h3,h5,h6,h10,h11,h12,h18,h19,h20,hBv,hn,hg,hmd,p1,p2,c2,hj2,w2,flen,ffit,fat,Fld.cells,Typ.cells,hT,can_sv]
      refine CallT.o (n:=40) [((2,8),8)] (g2) (by first | rfl | (simp;done)|(simp[h3,h10,h11,h12,hn,hg,hmd,c,hi2,w,hlen,hfit,hat,Def.cells,o1,o2,h3,h5,h6,h10,h11,h12,h18,h19,h20,hBv,hn,hg,hmd,p1,p2,c2,hj2,w2,flen,ffit,fat,Fld.cells,Typ.cells,hT,can_sv];done)) (by kernel_rfl) (by kernel_rfl) (by first | (simp[Eh.e];done)|(simp[h3,h10,h11,h12,hn,hg,hmd,c,hi2,w,hlen,hfit,hat,Def.cells,o1,o2,h3,h5,h6,h10,h11,h12,h18,h19,h20,hBv,hn,hg,hmd,p1,p2,c2,hj2,w2,flen,ffit,fat,Fld.cells,Typ.cells,hT,can_sv,Eh.e];done)|(simp[h3,h10,h11,h12,hn,hg,hmd,c,hi2,w,hlen,hfit,hat,Def.cells,o1,o2,h3,h5,h6,h10,h11,h12,h18,h19,h20,hBv,hn,hg,hmd,p1,p2,c2,hj2,w2,flen,ffit,fat,Fld.cells,Typ.cells,hT,can_sv,Eh.e];omega)) (by first | (simp[Ar.a];done)|(simp[Ar.a];omega)) (fun B' hB'=>by first | rfl | (simp;done)|(simp[hB'];done)|(simp[h3,h10,h11,h12,hn,hg,hmd,c,hi2,w,hlen,hfit,hat,Def.cells,o1,o2,h3,h5,h6,h10,h11,h12,h18,h19,h20,hBv,hn,hg,hmd,p1,p2,c2,hj2,w2,flen,ffit,fat,Fld.cells,Typ.cells,hT,can_sv,hB'];done)) ?_
      simp[h3,h10,h11,h12,hn,hg,hmd,c,hi2,w,hlen,hfit,hat,Def.cells,o1,o2,h3,h5,h6,h10,h11,h12,h18,h19,h20,hBv,hn,hg,hmd,p1,p2,c2,hj2,w2,flen,ffit,fat,Fld.cells,Typ.cells,hT,can_sv]
      obtain⟨K1,hK1⟩:∃ K1,cntL [skZ 10 args.length (rowsZ Arg.sz args)]=K1:=⟨_,rfl⟩
      obtain⟨K2,hK2⟩:∃ K2,cntL (Typ.sz (.mk tt tl tb))=K2:=⟨_,rfl⟩
      obtain⟨q1,hq1⟩:∃ q1,S.nx+1+4+13=q1:=⟨_,rfl⟩
      obtain⟨N,hN⟩:∃ N:List Ld,N=.d (.string fname)::(canL q1 [skZ 10 args.length (rowsZ Arg.sz args)]++canL (q1+K1) (Typ.sz (.mk tt tl tb))):=⟨_,rfl⟩
      have hNs:svs N=[.d (dS fname),((skZ 10 args.length (rowsZ Arg.sz args)).can q1).sv, .d (dS tt),((skZ 3 tl.length (typsZ tl)).can (q1+K1)).sv, .d (dB tb)]:=by rw[hN];simp[hT,canL]
      have hNh:shs N=Fld.sz ⟨fname,args, .mk tt tl tb⟩:=by rw[hN];simp[shs_app,canL_shs,shs,Ld.sh,Fld.sz]
      have hNa:∀ S':St,(∀ b,q1≤b→b<q1+K1→S'.B b=(newL [skZ 10 args.length (rowsZ Arg.sz args)] (b - q1)).map (·.map (SV.shift q1)))→(∀ b,q1+K1≤b→b<q1+K1+K2→S'.B b=(newL (Typ.sz (.mk tt tl tb)) (b - (q1+K1))).map (·.map (SV.shift (q1+K1))))→At S' q1 (q1+K1+K2) N:=fun S' h1 h2=>by
        rw[hN]
        exact .cons_d (.app (mid:=q1+K1) (hK1▸At.new (by rw[hK1];exact h1)) (hK2▸At.new (by rw[hK2];exact h2)) (by omega) (by omega))
      have hNr:∀ p∈varsL N,q1≤p.1:=fun p hp=>by
        rw[hN] at hp
        simp only[varsL,Ld.vars,List.nil_append,varsL_app,List.mem_append] at hp
        rcases hp with hp | hp
        · have:=canL_rng hp;omega
        · have:=canL_rng hp;omega
      simp only[hK1,hK2,hq1]
      have e1:∀ k,k<N0+11→k<q1:=fun k hk=>by omega
      have e2:∀ k,k<N0+11→k<q1+K1:=fun k hk=>by omega
      have v1:v<q1:=by omega
      have v2:v<q1+K1:=by omega
      have v3:∀ a,¬ v=S.nx+a:=fun a=>by omega
      have v4:∀ a,¬ S.nx+a=v:=fun a=>by omega
      have v5:∀ a b,¬ v=S.nx+a+b:=fun a b=>by omega
      have v6:∀ a b c,¬ v=S.nx+a+b+c:=fun a b c=>by omega
      rcases ld_z hY with ⟨rfl,h0⟩ | ⟨b',cs,rfl,hsc,hpos⟩
      · simp[h3,h10,h11,h12,hn,hg,hmd,c,hi2,w,hlen,hfit,hat,Def.cells,o1,o2,h3,h5,h6,h10,h11,h12,h18,h19,h20,hBv,hn,hg,hmd,p1,p2,c2,hj2,w2,flen,ffit,fat,Fld.cells,Typ.cells,hT,can_sv,hq1,v1,v2,v3,v4,v5,v6]
        refine⟨by unfold appBound;omega,⟨j+1,hj2, .row (some 5) (S.nx+1+4+11) 1 N,rfl,by omega,?_,?_,?_,by omega⟩,upTo_lt h20 (by simp) hj2⟩
        · exact ha.keep fun b h1 h2=>by ((try simp);(repeat first | rw[if_neg (by omega)] | rw[if_pos (by omega)]);(try (intro h;exfalso;omega)))
        · subst h0
          exact row_sh (by rw[hNh,fvn];simp[rowsZ]) (by omega)
        · refine .row (by rw[hNs];simp) (by omega) (by omega) ((hNa _ ?_ ?_).le (by omega) (by omega)) (fun p hp=>by have:=hNr p hp;omega)
          · intro b h1 h2;(((try simp);(repeat first | rw[if_neg (by omega)] | rw[if_pos (by omega)]);(try (intro h;exfalso;omega))));simp only[hq1]
          · intro b h1 h2;(((try simp);(repeat first | rw[if_neg (by omega)] | rw[if_pos (by omega)]);(try (intro h;exfalso;omega))));simp only[hq1]
      · have hb2:=hb.rng (b',svs cs) (by simp[varsL,Ld.vars])
        have hBb:=hb.has (b',svs cs) (by simp[varsL,Ld.vars])
        have hA:(svs cs).length=j*5:=by rw[svs_len, ← shs_len,hsc,rowsZ_len fld_szlen,List.length_take];congr 1;omega
        simp only at hb2 hBb
        have hlt:b'<q1:=by omega
        have hlt2:b'<q1+K1:=by omega
        have htk:List.take (j*5) (svs cs)=svs cs:=List.take_of_length_le (by omega)
        have nbx:¬ b'=S.nx+1+2:=by omega
        have nbx2:¬ S.nx+1+2=b':=by omega
        have nv:¬ v=b':=by omega
        have nv2:¬ b'=v:=by omega
        simp[h3,h10,h11,h12,hn,hg,hmd,c,hi2,w,hlen,hfit,hat,Def.cells,o1,o2,h3,h5,h6,h10,h11,h12,h18,h19,h20,hBv,hn,hg,hmd,p1,p2,c2,hj2,w2,flen,ffit,fat,Fld.cells,Typ.cells,hT,can_sv,hq1,v1,v2,v3,v4,v5,v6,hBb,hA,hlt,hlt2,htk,nbx,nbx2,nv,nv2]
        refine⟨by unfold appBound;omega,⟨j+1,hj2, .row (some 5) (S.nx+1+4+11) (j+1) (cs++N),rfl,by omega,?_,?_,?_,by omega⟩,upTo_lt h20 (by simp) hj2⟩
        · exact ha.keep fun b h1 h2=>by ((try simp);(repeat first | rw[if_neg (by omega)] | rw[if_pos (by omega)]);(try (intro h;exfalso;omega)))
        · exact row_sh (by rw[shs_app,hNh,fvn,hsc]) (by omega)
        · refine hb.grow (lo2:=q1) (hi':=q1+K1+K2+2) ((hNa _ ?_ ?_).le (Nat.le_refl _) (by omega)) (by rw[svs_app,hNs];simp) ?_ (by omega) (by omega) (by omega) (by omega) (fun p hp=>by have:=hNr p hp;omega) (by omega)
          · intro b h1 h2;(((try simp);(repeat first | rw[if_neg (by omega)] | rw[if_pos (by omega)]);(try (intro h;exfalso;omega))));simp only[hq1]
          · intro b h1 h2;(((try simp);(repeat first | rw[if_neg (by omega)] | rw[if_pos (by omega)]);(try (intro h;exfalso;omega))));simp only[hq1]
          · intro x h1 h2 h3;((try simp);(repeat first | rw[if_neg (by omega)] | rw[if_pos (by omega)]);(try (intro h;exfalso;omega)))
    · have hj3:j=fs.length:=by omega
      subst hj3
      rw[List.take_length] at hY
      have g3:=gz_copyTexts (gl:=gl) words hwl
      have v1:v<S.nx+1+13:=by omega
      have v3:∀ a,¬ v=S.nx+a:=fun a=>by omega
      have v5:∀ a b,¬ v=S.nx+a+b:=fun a b=>by omega
      simp[h3,h10,h11,h12,hn,hg,hmd,c,hi2,w,hlen,hfit,hat,Def.cells,o1,o2,h3,h5,h6,h10,h11,h12,h18,h19,h20,hBv,hn,hg,hmd,p1,p2,c2,v1,v3,v5,p3]
      refine⟨DrawT.mk (by kernel_rfl),?_⟩
      refine CallT.o (n:=40) [((2,5),8),((4,5),8)] (g3) (by first | rfl | (simp;done)|(simp[h3,h10,h11,h12,hn,hg,hmd,c,hi2,w,hlen,hfit,hat,Def.cells,o1,o2,h3,h5,h6,h10,h11,h12,h18,h19,h20,hBv,hn,hg,hmd,p1,p2,c2,v1,v3,v5,p3];done)) (by kernel_rfl) (by kernel_rfl) (by first | (simp[Eh.e];done)|(simp[h3,h10,h11,h12,hn,hg,hmd,c,hi2,w,hlen,hfit,hat,Def.cells,o1,o2,h3,h5,h6,h10,h11,h12,h18,h19,h20,hBv,hn,hg,hmd,p1,p2,c2,v1,v3,v5,p3,Eh.e];done)|(simp[h3,h10,h11,h12,hn,hg,hmd,c,hi2,w,hlen,hfit,hat,Def.cells,o1,o2,h3,h5,h6,h10,h11,h12,h18,h19,h20,hBv,hn,hg,hmd,p1,p2,c2,v1,v3,v5,p3,Eh.e];omega)) (by first | (simp[Ar.a];done)|(simp[Ar.a];omega)) (fun B' hB'=>by first | rfl | (simp;done)|(simp[hB'];done)|(simp[h3,h10,h11,h12,hn,hg,hmd,c,hi2,w,hlen,hfit,hat,Def.cells,o1,o2,h3,h5,h6,h10,h11,h12,h18,h19,h20,hBv,hn,hg,hmd,p1,p2,c2,v1,v3,v5,p3,hB'];done)) ?_
      simp[h3,h10,h11,h12,hn,hg,hmd,c,hi2,w,hlen,hfit,hat,Def.cells,o1,o2,h3,h5,h6,h10,h11,h12,h18,h19,h20,hBv,hn,hg,hmd,p1,p2,c2,v1,v3,v5,p3]
      obtain⟨K1,hK1⟩:∃ K1,cntL [skT words]=K1:=⟨_,rfl⟩
      obtain⟨q1,hq1⟩:∃ q1,S.nx+1+13=q1:=⟨_,rfl⟩
      obtain⟨N,hN⟩:∃ N:List Ld,N=.d (.string dname)::.d (.int .i64 kind)::([y]++canL q1 [skT words]):=⟨_,rfl⟩
      have hNs:svs N=[.d (dS dname), .d (dI kind),y.sv,((skT words).can q1).sv]:=by rw[hN];simp[canL]
      have hNh:shs N=Def.sz ⟨dname,kind,fs,words⟩:=by rw[hN];simp[shs,Ld.sh,Def.sz,hY,canL,can_sh]
      have hNa:∀ S':St,(∀ b,N0+4≤b→b<S.nx→S'.B b=S.B b)→(∀ b,q1≤b→b<q1+K1→S'.B b=(newL [skT words] (b - q1)).map (·.map (SV.shift q1)))→At S' (N0+4) (q1+K1) N:=fun S' h1 h2=>by
        rw[hN]
        exact .cons_d (.cons_d (.app (a:=[y]) (mid:=q1) ((hb.keep h1).le (Nat.le_refl _) (by omega)) (hK1▸At.new (by rw[hK1];exact h2)) (by omega) (by omega)))
      have hNr:∀ p∈varsL N,p.1≠S.nx+1+11:=fun p hp=>by
        rw[hN] at hp
        simp only[varsL,Ld.vars,List.nil_append,varsL_app,List.mem_append,List.append_nil] at hp
        rcases hp with hp | hp
        · have:=(hb.rng p (by simpa[varsL] using hp)).2;omega
        · have:=canL_rng hp;omega
      simp only[hK1,hq1]
      rcases ld_z hX with ⟨rfl,h0⟩ | ⟨b',cs,rfl,hsc,hpos⟩
      · simp[h3,h10,h11,h12,hn,hg,hmd,c,hi2,w,hlen,hfit,hat,Def.cells,o1,o2,h3,h5,h6,h10,h11,h12,h18,h19,h20,hBv,hn,hg,hmd,p1,p2,c2,v1,v3,v5,p3]
        refine⟨by unfold appBound;omega,⟨i+1,hi2, .row (some 4) (S.nx+1+11) 1 N,rfl,by omega,?_,?_⟩,upTo_lt o12 (by simp) hi2⟩
        · subst h0
          exact row_sh (by rw[hNh,hvn];simp[rowsZ]) (by omega)
        · refine .row (by rw[hNs];simp) (by omega) (by omega) ((hNa _ ?_ ?_).le (by omega) (by omega)) hNr
          · intro b h1 h2;((try simp);(repeat first | rw[if_neg (by omega)] | rw[if_pos (by omega)]);(try (intro h;exfalso;omega)))
          · intro b h1 h2;(((try simp);(repeat first | rw[if_neg (by omega)] | rw[if_pos (by omega)]);(try (intro h;exfalso;omega))));simp only[hq1]
      · have hb2:=ha.rng (b',svs cs) (by simp[varsL,Ld.vars])
        have hBb:=ha.has (b',svs cs) (by simp[varsL,Ld.vars])
        have hA:(svs cs).length=i*4:=by rw[svs_len, ← shs_len,hsc,rowsZ_len def_szlen,List.length_take];congr 1;omega
        simp only at hb2 hBb
        have hlt:b'<q1:=by omega
        have htk:List.take (i*4) (svs cs)=svs cs:=List.take_of_length_le (by omega)
        simp[h3,h10,h11,h12,hn,hg,hmd,c,hi2,w,hlen,hfit,hat,Def.cells,o1,o2,h3,h5,h6,h10,h11,h12,h18,h19,h20,hBv,hn,hg,hmd,p1,p2,c2,v1,v3,v5,p3,hBb,hA,hlt,htk,hq1]
        refine⟨by unfold appBound;omega,⟨i+1,hi2, .row (some 4) (S.nx+1+11) (i+1) (cs++N),rfl,by omega,?_,?_⟩,upTo_lt o12 (by simp) hi2⟩
        · exact row_sh (by rw[shs_app,hNh,hvn,hsc]) (by omega)
        · refine ha.grow (lo2:=N0+4) (hi':=q1+K1+2) ((hNa _ ?_ ?_).le (Nat.le_refl _) (by omega)) (by rw[svs_app,hNs];simp) ?_ (by omega) (by omega) (by omega) (by omega) hNr (by omega)
          · intro b h1 h2;((try simp);(repeat first | rw[if_neg (by omega)] | rw[if_pos (by omega)]);(try (intro h;exfalso;omega)))
          · intro b h1 h2;(((try simp);(repeat first | rw[if_neg (by omega)] | rw[if_pos (by omega)]);(try (intro h;exfalso;omega))));simp only[hq1]
          · intro x h1 h2 h3;((try simp);(repeat first | rw[if_neg (by omega)] | rw[if_pos (by omega)]);(try (intro h;exfalso;omega)))
  · have hi3:i=l.length:=by omega
    subst hi3
    rw[List.take_length] at hX
    simp[h3,h10,h11,h12,hn,hg,hmd,c,o1,o2,o3]
    exact fin_1 (ha.keep fun b h1 h2=>by ((try simp);(repeat first | rw[if_neg (by omega)] | rw[if_pos (by omega)]);(try (intro h;exfalso;omega)))) hX rfl
abbrev digT (m:Nat):ByteArray:=strOfNums [IntKind.u8.wrap (48+(m:Int) % 10)]
theorem strOfNums_one (x:Int):(strOfNums [x]).size=1:=rfl
def markGo:Nat→Nat→ByteArray→ByteArray
  | 0,_,t=>t
  | f+1,m,t=>if m=0 then t else markGo f (m / 10) (digT m++t)
abbrev mText:ByteArray:=⟨#[109]⟩
def markT (n:Nat):ByteArray:=mText++markGo n n ⟨#[]⟩
theorem markGo_more:∀ (f g m:Nat) (t:ByteArray),m≤f→m≤g→markGo f m t=markGo g m t
  | 0,0,_,_,_,_=>rfl
  | 0,g+1,m,t,h,_=>by
    obtain rfl:m=0:=by omega
    simp[markGo]
  | f+1,0,m,t,_,h=>by
    obtain rfl:m=0:=by omega
    simp[markGo]
  | f+1,g+1,m,t,h,h'=>by
    simp only[markGo]
    split
    · rfl
    · exact markGo_more f g _ _ (by omega) (by omega)
set_option maxHeartbeats 1000000 in
theorem p_markText (n:Nat) (h1:1≤n) (hn:n≤1099511627776):PCall Tryz.prog gl 103 [dI n] (dS (markT n)):=by
  have hn1:¬ n=0:=by omega
  refine PCall.by_ (md:=[]) Tryz.func103 rfl (by kernel_rfl) (n:=20) Tryz.ntmps103 (by simp) (by decide) rfl ?_
  simp[hn1]
  refine LoopT.round (fun E S=>∃ (t:ByteArray) (m:Nat),E 0=some (.d (dI m))∧E 3=some (.d (dS t))∧(m≤n)∧(t.size+m≤n)∧(markGo m m t=markGo n n ⟨#[]⟩)) (fun E S=>match E 0 with | some (.d (.v (.int _ i)))=>i.toNat | _=>0) ⟨⟨#[]⟩,n,by simp[hn1];show 0+n≤n;omega⟩ ?_
  rintro E S hk ⟨t,m,h0,h3,hm,hz3,hr⟩
  have hn:S.n=20:=by first | (simpa using hk.n)|(have hh:=hk.n;simp[hn1] at hh;exact hh)
  have hg:S.gl=gl:=by first | (simpa using hk.gl)|(have hh:=hk.gl;simp[hn1] at hh;exact hh)
  have hmd:S.md=[]:=by first | (simpa using hk.md)|(have hh:=hk.md;simp[hn1] at hh;exact hh)
  simp[hn1,h0,h3,hn,hg,hmd]
  by_cases hm0:m=0
  · subst hm0
    have g6:(⟨#[109]⟩:ByteArray).size+t.size≤9223372036854775807:=by show 1+t.size≤_;omega
    have hr2:t=markGo n n ⟨#[]⟩:=hr
    simp[hn1,h0,h3,hn,hg,hmd,g6]
    rw[hr2];rfl
  have g2:0<m:=by omega
  have w1:(m:Int).tmod 10=(m:Int) % 10:=Int.tmod_eq_emod_of_nonneg (by omega)
  have w2:(m:Int).tdiv 10=((m / 10:Nat):Int):=by rw[Int.tdiv_eq_ediv_of_nonneg (by omega)];simp
  have w3:IntKind.i64.wrap ((m:Int) / 10)=(m:Int) / 10:=wrap64 (by omega) (by omega)
  have w4:IntKind.i64.wrap (48+(m:Int) % 10)=48+(m:Int) % 10:=wrap64 (by omega) (by omega)
  have g5:(strOfNums [IntKind.u8.wrap (48+(m:Int) % 10)]).size+t.size≤9223372036854775807:=by rw[strOfNums_one];omega
  have hr2:markGo (m / 10) (m / 10) (strOfNums [IntKind.u8.wrap (48+(m:Int) % 10)]++t)=markGo n n ⟨#[]⟩:=by
    rw[← hr]
    obtain⟨q,hq⟩:∃ q,m=q+1:=⟨m - 1,by omega⟩
    have:markGo m m t=markGo q (m / 10) (digT m++t):=by
      conv=>lhs;rw[hq]
      rw[markGo, ← hq,if_neg hm0]
    rw[this]
    exact markGo_more _ _ _ _ (by omega) (by omega)
  simp[hn1,h0,h3,hn,hg,hmd,g2,w1,w2,w3,w4,g5]
  refine⟨⟨_,m / 10,by omega,rfl,by omega,?_,hr2⟩,by omega⟩
  rw[ByteArray.size_append,strOfNums_one];omega
def marks (n c:Nat):List ByteArray:=(List.range c).map fun j=>markT (n+j)
@[simp] theorem marks_len (n c:Nat):(marks n c).length=c:=by simp[marks]
theorem marks_succ (n c:Nat):marks n (c+1)=marks n c++[markT (n+c)]:=by simp[marks,List.range_succ]
theorem marks_at (n c i:Nat) (h:i<(marks n c).length):(marks n c)[i]=markT (n+i):=by simp[marks]
abbrev cellS (l:List ByteArray):List SV:=l.map fun s=>.d (dS s)
theorem ltS_cellS (n:Nat):∀ l:List ByteArray,ltS n (cellS l)=true
  | []=>rfl
  | s::r=>by
    have:=ltS_cellS n r
    simp only[cellS,List.map_cons] at this ⊢
    unfold ltS
    simp[SV.lt,this]
set_option maxHeartbeats 1000000 in
theorem l_markStringS (S0:St) (b n:Nat) (l:List ByteArray) (hb:b<S0.nx) (hB:S0.B b=some (cellS l)) (h1:1≤n) (hn:n≤1073741824) (hl:l.length≤1073741824) :
    LCall Tryz.prog 45 [.os b 0 l.length, .d (dI n)] S0 (.d (dI ((n+l.length:Nat):Int))) (leftS S0 0 [(b,cellS (marks n l.length))] []):=by
  have ne:∀ k,S0.nx≤k→¬ b=k:=fun k=>by omega
  refine LCall.byE (md:=[]) (leftS_keeps _ _ _ _) (by simp[SV.lt,ltS]<;>omega) Tryz.func45 rfl (by kernel_rfl) (n:=20) Tryz.ntmps45 (by simp) (by decide) rfl ?_
  simp[hB]
  refine LoopT.round (fun E S=>∃ (i:Nat),(i≤l.length)∧E 0=some (.os b 0 l.length)∧E 1=some (.d (dI ((n+i:Nat):Int)))∧E 5=some (.d (dI i))∧S.B b=some (cellS (marks n i++l.drop i))∧(Old S0 [b] [] S)) (upTo 5 l.length) ⟨0,by simp[hB];rfl⟩ ?_
  rintro E S hk ⟨i,hi,h0,h1,h5,hBb,ho⟩
  have hn:S.n=20:=by first | (simpa using hk.n)|(have hh:=hk.n;simp[hB] at hh;exact hh)
  have hg:S.gl=S0.gl:=by first | (simpa using hk.gl)|(have hh:=hk.gl;simp[hB] at hh;exact hh)
  have hmd:S.md=[]:=by first | (simpa using hk.md)|(have hh:=hk.md;simp[hB] at hh;exact hh)
  simp[hB,h0,h1,h5,hBb,hn,hg,hmd]
  have w:=wrap64 (n:=(i:Int)+1) (by omega) (by omega)
  have w2:=wrap64 (n:=(n:Int)+(i:Int)+1) (by omega) (by omega)
  refine BrT.dec (fun c=>?_) (fun c=>?_)
  · have hi2:i<l.length:=by omega
    simp[hB,h0,h1,h5,hBb,hn,hg,hmd,c,hi2]
    repeat refine⟨DrawT.mk (by kernel_rfl),?_⟩
    refine CallT.p0 (p_markText (n+i) (by omega) (by omega)) (by first | rfl | (simp;done)|(simp[hB,h0,h1,h5,hBb,hn,hg,hmd,c];done)) (by first | rfl | (simp;done)|(simp;rfl)|(simp[hB,h0,h1,h5,hBb,hn,hg,hmd,c];done)) ?_
    simp[hB,h0,h1,h5,hBb,hn,hg,hmd,c]
    have e:(cellS (marks n i)++SV.d (D.v (Value.string (markT (n+i))))::List.drop (i+1) (cellS (marks n i)++List.drop i (cellS l)))=cellS (marks n (i+1))++List.drop (i+1) (cellS l):=by
      rw[marks_succ,List.drop_append]
      simp[cellS]
    refine⟨by omega,⟨i+1,by omega,by rw[w2];simp;omega,by rw[w];simp,e,?_⟩,upTo_lt h5 (by simp[w]) hi2⟩
    rw[old_setIn (by simp)]
    exact ho
  · have hi3:i=l.length:=by omega
    subst hi3
    simp[hB,h0,h1,h5,hBb,hn,hg,hmd,c]
    refine elder_old (bs:=[b]) (ts:=[]) ?_ ?_ ?_ ?_ ?_ ?_ ?_
    · exact ho
    · simp[hBb]
    · simp
    · simp[hb,ltS_cellS]
    · simp
    · simp
    · simp
set_option maxHeartbeats 1000000 in
theorem p_heldStringS (n c:Nat) (h1:1≤n) (hn:n≤1073741824) (hc:c≤1073741824):PCall Tryz.prog gl 46 [namesD (marks n c),dI n] (dI ((n+c:Nat):Int)):=by
  refine PCall.by_ (md:=[]) Tryz.func46 rfl (by kernel_rfl) (n:=22) Tryz.ntmps46 (by simp) (by decide) rfl ?_
  simp
  refine LoopT.round (fun E S=>∃ (i:Nat),(i≤c)∧E 0=some (.d (namesD (marks n c)))∧E 1=some (.d (dI ((n+i:Nat):Int)))∧E 5=some (.d (dI i))) (upTo 5 c) ⟨0,by simp⟩ ?_
  rintro E S hk ⟨i,hi,h0,h1,h5⟩
  have hn:S.n=22:=by first | (simpa using hk.n)|(have hh:=hk.n;simp at hh;exact hh)
  have hg:S.gl=gl:=by first | (simpa using hk.gl)|(have hh:=hk.gl;simp at hh;exact hh)
  have hmd:S.md=[]:=by first | (simpa using hk.md)|(have hh:=hk.md;simp at hh;exact hh)
  simp[h0,h1,h5,hn,hg,hmd]
  have w:=wrap64 (n:=(i:Int)+1) (by omega) (by omega)
  have w2:=wrap64 (n:=(n:Int)+(i:Int)+1) (by omega) (by omega)
  refine BrT.dec (fun c9=>?_) (fun c9=>?_)
  · have hi2:i<(marks n c).length:=by simp;omega
    simp[h0,h1,h5,hn,hg,hmd,c9,hi2,marks_at]
    repeat refine⟨DrawT.mk (by kernel_rfl),?_⟩
    refine CallT.p0 (p_markText (n+i) (by omega) (by omega)) (by first | rfl | (simp;done)|(simp[h0,h1,h5,hn,hg,hmd,c9];done)) (by first | rfl | (simp;done)|(simp;rfl)|(simp[h0,h1,h5,hn,hg,hmd,c9];done)) ?_
    simp[h0,h1,h5,hn,hg,hmd,c9]
    exact⟨⟨i+1,by omega,by rw[w2];simp;omega,by rw[w];simp⟩,upTo_lt h5 (by simp[w]) (by simpa using hi2)⟩
  · simp[h0,h1,h5,hn,hg,hmd,c9]
    omega
mutual
def cntV:Val→Nat
  | .mk _ _ _ l ns=>3+cntVs l+ns.length
def cntVs:List Val→Nat
  | []=>0
  | v::r=>cntV v+cntVs r
end
mutual
def markV:Val→Nat→Val
  | .mk _ _ _ l ns,q=>.mk q ((q+1:Nat):Int) (markT (q+2)) (markVs l (q+3)) (marks (q+3+cntVs l) ns.length)
def markVs:List Val→Nat→List Val
  | [],_=>[]
  | v::r,q=>markV v q::markVs r (q+cntV v)
end
theorem markVs_len:∀ (l:List Val) (q:Nat),(markVs l q).length=l.length
  | [],_=>rfl
  | v::r,q=>by simp[markVs,markVs_len r]
def markNm:Ld→Nat→Ld
  | .row z b m _,q=>.row z b m (ldT (marks q m))
  | x,_=>x
def rowMap (f:List Ld→List Ld):Ld→Ld
  | .row z b m cs=>.row z b m (f cs)
  | x=>x
@[simp] theorem rowMap_nil (f:List Ld→List Ld):rowMap f .nil=.nil:=(rfl)
@[simp] theorem rowMap_row (f:List Ld→List Ld) (z:Option Nat) (b m:Nat) (cs:List Ld):rowMap f (.row z b m cs)=.row z b m (f cs):=(rfl)
mutual
def markLd:Val→List Ld→Nat→List Ld
  | .mk _ _ _ l ns,cs,q=>match cs with
    | [_,_,_,X,Y]=>[.d (.int .i64 q), .d (.int .i64 ((q+1:Nat):Int)), .d (.string (markT (q+2))),rowMap (fun cs=>markLds l cs (q+3)) X,markNm Y (q+3+cntVs l)]
    | _=>cs
def markLds:List Val→List Ld→Nat→List Ld
  | [],cs,_=>cs
  | v::r,cs,q=>markLd v (cs.take 5) q++markLds r (cs.drop 5) (q+cntV v)
end
abbrev ids (cs:List Ld):List Nat:=(varsL cs).map (·.1)
theorem ld_row {e:Bool}{n:Nat}{sk:List Sk}{X:Ld} (h:X.sh=skR e n sk):(X=.nil∧n=0∧e=false)∨∃ b cs,X=.row none b n cs∧shs cs=sk∧(n=0→e=true):=by
  unfold skR at h
  split at h
  · rename_i hn
    cases X with
    | nil=>exact .inl ⟨rfl,hn.1,hn.2⟩
    | d v=>simp[Ld.sh] at h
    | row z b m cs=>simp[Ld.sh] at h
  · rename_i hn
    cases X with
    | nil=>simp[Ld.sh] at h
    | d v=>simp[Ld.sh] at h
    | row z b m cs =>
      simp only[Ld.sh,Sk.row.injEq] at h
      obtain⟨rfl,rfl,h3⟩:=h
      refine .inr ⟨b,cs,rfl,h3,fun h0=>?_⟩
      cases e with
      | true=>rfl
      | false=>exact absurd ⟨h0,rfl⟩ hn
theorem ld_texts {cs:List Ld}{l:List ByteArray} (h:shs cs=l.map fun s=>.d (.string s)):cs=ldT l:=by
  induction l generalizing cs with
  | nil=>cases cs with
    | nil=>rfl
    | cons x r=>simp[shs] at h
  | cons s l ih=>cases cs with
    | nil=>simp[shs] at h
    | cons x r =>
      simp only[shs,List.map_cons,List.cons.injEq] at h
      rw[ih h.2]
      cases x with
      | d v=>simp only[Ld.sh,Sk.d.injEq] at h;rw[h.1];rfl
      | nil=>simp[Ld.sh] at h
      | row=>simp[Ld.sh] at h
theorem ld_d {x:Ld}{v:Value} (h:x.sh=.d v):x=.d v:=by
  cases x with
  | d w=>simp only[Ld.sh,Sk.d.injEq] at h;rw[h]
  | nil=>simp[Ld.sh] at h
  | row=>simp[Ld.sh] at h
theorem ld_val {e:Bool}{k n:Int}{t:ByteArray}{l:List Val}{ns:List ByteArray}{cs:List Ld}{r:List Sk} (h:shs cs=(Val.mk k n t l ns).sk e++r) :
    ∃ X Y rest,cs=.d (.int .i64 k)::.d (.int .i64 n)::.d (.string t)::X::Y::rest∧X.sh=skR e l.length (valsSk e l)∧Y.sh=skS e ns∧shs rest=r:=by
  match cs,h with
  | c0::c1::c2::X::Y::rest,h =>
    simp only[shs,Val.sk,List.cons_append,List.nil_append,List.cons.injEq] at h
    obtain⟨h0,h1,h2,h3,h4,h5⟩:=h
    rw[ld_d h0,ld_d h1,ld_d h2]
    exact⟨X,Y,rest,rfl,h3,h4,h5⟩
  | [],h=>simp[shs,Val.sk] at h
  | [_],h=>simp[shs,Val.sk] at h
  | [_,_],h=>simp[shs,Val.sk] at h
  | [_,_,_],h=>simp[shs,Val.sk] at h
  | [_,_,_,_],h=>simp[shs,Val.sk] at h
theorem ld_names {e:Bool}{ns:List ByteArray}{Y:Ld} (h:Y.sh=skS e ns):(Y=.nil∧ns=[])∨∃ b,Y=.row none b ns.length (ldT ns)∧(ns=[]→e=true):=by
  rcases ld_row h with ⟨h1,h2,_⟩ | ⟨b,cs,h1,h2,h3⟩
  · exact .inl ⟨h1,List.eq_nil_of_length_eq_zero h2⟩
  · exact .inr ⟨b,by rw[h1,ld_texts h2],fun h=>h3 (by rw[h];rfl)⟩
mutual
theorem markLd_sh {e:Bool}:∀ (v:Val) (cs:List Ld) (q:Nat),shs cs=v.sk e→shs (markLd v cs q)=(markV v q).sk e∧ids (markLd v cs q)=ids cs
  | .mk k n t l ns,cs,q,h=>by
    obtain⟨X,Y,rest,rfl,h3,h4,h5⟩:=ld_val (e:=e) (k:=k) (n:=n) (t:=t) (l:=l) (ns:=ns) (r:=[]) (by rw[h];simp)
    have:rest=[]:=by cases rest with
      | nil=>rfl
      | cons x r=>simp[shs] at h5
    subst this
    have hX:(rowMap (fun cs=>markLds l cs (q+3)) X).sh=skR e (markVs l (q+3)).length (valsSk e (markVs l (q+3)))∧(rowMap (fun cs=>markLds l cs (q+3)) X).vars.map (fun p=>p.1)=X.vars.map (fun p=>p.1):=by
      rcases ld_row h3 with ⟨rfl,h0,he⟩ | ⟨b,cs,rfl,h1,he⟩
      · have:l=[]:=List.eq_nil_of_length_eq_zero h0
        subst this;subst he
        exact⟨by simp[markVs,Ld.sh],rfl⟩
      · obtain⟨g1,g2⟩:=markLds_sh l cs (q+3) h1
        refine⟨?_,by simp only[rowMap_row,Ld.vars,List.map_cons];exact congrArg _ g2⟩
        simp only[rowMap_row,Ld.sh,g1,markVs_len]
        unfold skR
        rw[if_neg (fun hh=>by have:=he hh.1;rw[hh.2] at this;cases this)]
    have hY:(markNm Y (q+3+cntVs l)).sh=skS e (marks (q+3+cntVs l) ns.length)∧(markNm Y (q+3+cntVs l)).vars.map (·.1)=Y.vars.map (·.1):=by
      rcases ld_names h4 with ⟨rfl,rfl⟩ | ⟨b,rfl,he⟩
      · have he:e=false:=by
          cases e with
          | false=>rfl
          | true=>simp[Ld.sh,skS] at h4
        subst he
        exact⟨by simp[markNm,Ld.sh,skS,marks],rfl⟩
      · refine⟨?_,by simp[markNm,Ld.vars]⟩
        simp only[markNm,Ld.sh,ldT_sh,skS,marks_len]
        unfold skR
        rw[if_neg (fun hh=>by have:=he (List.eq_nil_of_length_eq_zero hh.1);rw[hh.2] at this;cases this)]
    refine⟨?_,?_⟩
    · simp only[markLd,shs,markV,Val.sk,Ld.sh,hX.1,hY.1]
    · simp only[ids,markLd,varsL,Ld.vars,List.nil_append,List.append_nil,List.map_append,hX.2,hY.2]
theorem markLds_sh {e:Bool}:∀ (l:List Val) (cs:List Ld) (q:Nat),shs cs=valsSk e l→shs (markLds l cs q)=valsSk e (markVs l q)∧ids (markLds l cs q)=ids cs
  | [],cs,q,h=>by
    have:cs=[]:=by cases cs with
      | nil=>rfl
      | cons x r=>simp[shs,valsSk] at h
    subst this;exact⟨rfl,rfl⟩
  | v::r,cs,q,h=>by
    have hl:cs.length=5+(valsSk e r).length:=by rw[← shs_len,h];simp[valsSk]
    have e1:shs (cs.take 5)=v.sk e:=by
      have:shs (cs.take 5)++shs (cs.drop 5)=v.sk e++valsSk e r:=by rw[← shs_app,List.take_append_drop,h];rfl
      exact (List.append_inj this (by simp;omega)).1
    have e2:shs (cs.drop 5)=valsSk e r:=by
      have:shs (cs.take 5)++shs (cs.drop 5)=v.sk e++valsSk e r:=by rw[← shs_app,List.take_append_drop,h];rfl
      exact (List.append_inj this (by simp;omega)).2
    obtain⟨a1,a2⟩:=markLd_sh v (cs.take 5) q e1
    obtain⟨b1,b2⟩:=markLds_sh r (cs.drop 5) (q+cntV v) e2
    refine⟨by simp only[markLds,shs_app,a1,b1,markVs,valsSk],?_⟩
    simp only[ids] at a2 b2 ⊢
    simp only[markLds,varsL_app,List.map_append,a2,b2]
    rw[← List.map_append, ← varsL_app,List.take_append_drop]
end
theorem cntVs_len:∀ l:List Val,l.length≤cntVs l
  | []=>Nat.le_refl _
  | v::r=>by
    have:=cntVs_len r
    cases v with
    | mk k n t l ns=>simp only[List.length_cons,cntVs,cntV];omega
theorem p_markValueS_nil (n:Nat):PCall Tryz.prog gl 148 [valsD [],dI n] (dI n):=by
  refine PCall.by_ (md:=[]) Tryz.func148 rfl (by kernel_rfl) (n:=49) Tryz.ntmps148 (by simp) (by decide) rfl ?_
  simp
  refine LoopT.rounds 1 ?_
  simp[RndT_succ]
theorem p_markStringS_nil (n:Nat):PCall Tryz.prog gl 45 [namesD [],dI n] (dI n):=by
  refine PCall.by_ (md:=[]) Tryz.func45 rfl (by kernel_rfl) (n:=20) Tryz.ntmps45 (by simp) (by decide) rfl ?_
  simp
  refine LoopT.rounds 1 ?_
  simp[RndT_succ]
@[simp] theorem rowMap_sv (f:List Ld→List Ld) (X:Ld):(rowMap f X).sv=X.sv:=by cases X<;>rfl
@[simp] theorem markNm_sv (Y:Ld) (q:Nat):(markNm Y q).sv=Y.sv:=by cases Y<;>rfl
mutual
theorem lt_ld {hi:Nat}:∀ x:Ld,(∀ p∈x.vars,p.1<hi)→x.sv.lt hi=true∧∀ p∈x.vars,ltS hi p.2=true
  | .d v,_=>⟨rfl,by simp[Ld.vars]⟩
  | .nil,_=>⟨rfl,by simp[Ld.vars]⟩
  | .row z b n cs,h=>by
    simp only[Ld.vars,List.forall_mem_cons] at h ⊢
    obtain⟨h1,h2⟩:=lt_lds cs h.2
    refine⟨?_,h1,h2⟩
    cases z<;>simpa[SV.lt] using h.1
theorem lt_lds {hi:Nat}:∀ cs:List Ld,(∀ p∈varsL cs,p.1<hi)→ltS hi (svs cs)=true∧∀ p∈varsL cs,ltS hi p.2=true
  | [],_=>⟨rfl,by simp[varsL]⟩
  | x::r,h=>by
    simp only[varsL,List.mem_append] at h ⊢
    obtain⟨a1,a2⟩:=lt_ld x fun p hp=>h p (.inl hp)
    obtain⟨b1,b2⟩:=lt_lds r fun p hp=>h p (.inr hp)
    refine⟨by simp only[svs_cons,ltS,a1,b1];rfl,fun p hp=>?_⟩
    rcases hp with hp | hp
    · exact a2 p hp
    · exact b2 p hp
end
structure Marked (S S':St) (V:List (Nat×List SV)):Prop where
  n:S'.n=S.n
  nx:S'.nx=S.nx
  gl:S'.gl=S.gl
  md:S'.md=S.md
  own:∀ p∈V,S'.B p.1=some p.2
  old:∀ x,x<S.nx→x∉V.map (fun p=>p.1)→S'.B x=S.B x
  T:∀ x,x<S.nx→S'.T x=S.T x
theorem Marked.refl (S:St):Marked S S []:=⟨rfl,rfl,rfl,rfl,by simp,fun _ _ _=>rfl,fun _ _=>rfl⟩
theorem lookN_none {V:List (Nat×List SV)}{x:Nat} (h:x∉V.map (fun p=>p.1)):lookN V x=none:=by
  cases hl:lookN V x with
  | none=>rfl
  | some y=>exact absurd (List.mem_map.2 ⟨_,lookN_mem hl,rfl⟩) h
theorem Marked.left {S:St}{V:List (Nat×List SV)} (hd:(V.map (fun p=>p.1)).Nodup):Marked S (leftS S 0 V []) V :=
  ⟨rfl,rfl,rfl,rfl,fun p hp=>leftF_new (lookN_of hd hp),fun x hx h=>leftF_old (lookN_none h) hx,fun x hx=>leftF_old (L:=[]) rfl hx⟩
theorem CallT_ex {P:Program}{S:St}{g:FuncId}{ss:List SV}{K:Bool→SV→St→Prop}{r:SV}{Q:St→Prop} (h:∃ S',LCall P g ss S r S'∧Q S') (k:∀ S',Q S'→K true r S'):CallT txtLo P g ss S K:=by
  obtain⟨S',h1,h2⟩:=h
  exact .l h1 rfl (k S' h2)
theorem l_markNm (e:Bool) (ns:List ByteArray) (Y:Ld) (hY:Y.sh=skS e ns) (S:St) (z:Int) (q:Nat) (hz:z=(q:Int)) (h1:1≤q) (hq:q+ns.length≤1073741824) (hh:∀ p∈Y.vars,S.B p.1=some p.2∧p.1<S.nx) :
    ∃ S',LCall Tryz.prog 45 [Y.sv, .d (dI z)] S (.d (dI ((q+ns.length:Nat):Int))) S'∧Marked S S' (markNm Y q).vars:=by
  subst hz
  rcases ld_names hY with ⟨rfl,rfl⟩ | ⟨b,rfl,_⟩
  · refine⟨S,?_,Marked.refl S⟩
    exact LCall.ofP (k:=1) (p_markStringS_nil (gl:=S.gl) q) rfl
  · have:=hh (b,svs (ldT ns)) (by simp[Ld.vars])
    refine⟨_,l_markStringS S b q ns this.2 (by have h:=this.1;rw[ldT_svs,List.map_map] at h;exact h) h1 (by omega) (by omega),?_⟩
    have hv:(markNm (Ld.row none b ns.length (ldT ns)) q).vars=[(b,cellS (marks q ns.length))]:=by
      simp only[markNm,Ld.vars,ldT_svs,ldT_vars,List.map_map];rfl
    rw[hv]
    exact Marked.left (by simp)
set_option maxHeartbeats 4000000 in
theorem l_markValueS (e:Bool) (l:List Val) (S0:St) (b n:Nat) (cs:List Ld) (hcs:shs cs=valsSk e l) (hat:At S0 0 S0.nx [.row none b l.length cs]) (h1:1≤n) (hn:n+cntVs l≤1073741824) :
    LCall Tryz.prog 148 [.os b 0 l.length, .d (dI n)] S0 (.d (dI ((n+cntVs l:Nat):Int))) (leftS S0 0 ((b,svs (markLds l cs n))::varsL (markLds l cs n)) []):=by
  have hhas:=hat.has
  have hnd:=hat.nodup
  simp only[varsL,Ld.vars,List.append_nil,List.forall_mem_cons,List.map_cons,List.nodup_cons] at hhas hnd
  have hrg:∀ p∈varsL cs,p.1<S0.nx:=fun p hp=>(hat.rng p (by simp[varsL,Ld.vars,hp])).2
  obtain⟨hB,hB2⟩:=hhas
  have hb:b<S0.nx:=(hat.rng (b,svs cs) (by simp[varsL,Ld.vars])).2
  have hlen:=cntVs_len l
  refine LCall.byE (md:=[]) (leftS_keeps _ _ _ _) (by simp[SV.lt,ltS]<;>omega) Tryz.func148 rfl (by kernel_rfl) (n:=49) Tryz.ntmps148 (by simp) (by decide) rfl ?_
  simp[hB]
  refine LoopT.round (fun E S=>∃ (i:Nat) (done:List Ld) (rest:List Ld) (q:Nat),(i≤l.length)∧E 0=some (.os b 0 l.length)∧E 1=some (.d (dI q))∧E 5=some (.d (dI i))∧S.B b=some (svs done++svs rest)∧(done++markLds (l.drop i) rest q=markLds l cs n)∧(shs rest=valsSk e (l.drop i))∧(q+cntVs (l.drop i)=n+cntVs l)∧(done.length=i*5)∧(∀ p∈varsL (done++rest),S.B p.1=some p.2)∧(ids (done++rest)=ids cs)∧(Old S0 (b::ids cs) [] S)) (upTo 5 l.length) ⟨0,[],cs,n,by simp[hB];exact⟨hcs,fun a b h=>hB2 _ h⟩⟩ ?_
  rintro E S hk ⟨i,done,rest,q,hi,h0,h1,h5,hBb,hm,hr,hq,hdl,hh,hid,ho⟩
  have hn:S.n=49:=by first | (simpa using hk.n)|(have hh:=hk.n;simp[hB] at hh;exact hh)
  have hg:S.gl=S0.gl:=by first | (simpa using hk.gl)|(have hh:=hk.gl;simp[hB] at hh;exact hh)
  have hmd:S.md=[]:=by first | (simpa using hk.md)|(have hh:=hk.md;simp[hB] at hh;exact hh)
  simp[hB,h0,h1,h5,hBb,hn,hg,hmd]
  have w:=wrap64 (n:=(i:Int)+1) (by omega) (by omega)
  refine BrT.dec (fun c=>?_) (fun c=>?_)
  · have hi2:i<l.length:=by omega
    rw[List.drop_eq_getElem_cons hi2] at hm hr hq
    generalize hv:l[i]=v at hm hr hq
    cases v with
    | mk k m t lv ns =>
    simp only[valsSk] at hr
    obtain⟨X,Y,rest,rfl,hX,hY,hr2⟩:=ld_val hr
    simp only[cntVs,cntV] at hq
    have hA:(svs done).length=i*5:=by rw[svs_len,hdl]
    have t0:∀ L,List.take (i*5) (svs done++L)=svs done:=fun L=>List.take_left' hA
    have tj:∀ j L,List.take (i*5+j) (svs done++L)=svs done++L.take j:=fun j L=>by rw[← hA,List.take_length_add_append]
    have dj:∀ j L,List.drop (i*5+j) (svs done++L)=L.drop j:=fun j L=>by rw[← hA,List.drop_length_add_append]
    have dj2:∀ j k L,List.drop (i*5+j+k) (svs done++L)=L.drop (j+k):=fun j k L=>by rw[Nat.add_assoc,dj]
    have gj:∀ (j:Nat) (L:List SV),(svs done++L)[i*5+j]?=L[j]?:=fun j L=>by rw[← hA,List.getElem?_append_right (by omega),Nat.add_sub_cancel_left]
    have wq1:=wrap64 (n:=(q:Int)+1) (by omega) (by omega)
    have wq2:=wrap64 (n:=(q:Int)+1+1) (by omega) (by omega)
    have wq3:=wrap64 (n:=(q:Int)+1+1+1) (by omega) (by omega)
    have g1:i*5+1≤done.length+(rest.length+1+1+1+1+1):=by omega
    simp[hB,h0,h1,h5,hBb,hn,hg,hmd,c,hi2,t0,tj,dj,dj2,gj,wq1,wq2,wq3,w,hdl]
    refine⟨by omega,?_⟩
    repeat refine⟨DrawT.mk (by kernel_rfl),?_⟩
    refine CallT.p0 (p_markText (q+2) (by omega) (by omega)) (by first | rfl | (simp;done)|(simp[hB,h0,h1,h5,hBb,hn,hg,hmd,c,hi2,t0,tj,dj,dj2,gj,wq1,wq2,wq3,w,hdl];done)) (by first | rfl | (simp;done)|(simp;rfl)|(simp[hB,h0,h1,h5,hBb,hn,hg,hmd,c,hi2,t0,tj,dj,dj2,gj,wq1,wq2,wq3,w,hdl];done)) ?_
    simp[hB,h0,h1,h5,hBb,hn,hg,hmd,c,hi2,t0,tj,dj,dj2,gj,wq1,wq2,wq3,w,hdl]
    have hX':∀ (S1:St) (z:Int),z=((q+3:Nat):Int)→(∀ p∈X.vars,S1.B p.1=some p.2∧p.1<S1.nx)→(X.vars.map (fun p=>p.1)).Nodup →
        ∃ S',LCall Tryz.prog 148 [X.sv, .d (dI z)] S1 (.d (dI ((q+3+cntVs lv:Nat):Int))) S'∧Marked S1 S' (rowMap (fun cs=>markLds lv cs (q+3)) X).vars:=by
      intro S1 z hz hv1 hv2
      subst hz
      rcases ld_row hX with ⟨rfl,h0,_⟩ | ⟨bx,csx,rfl,h1,_⟩
      · have:lv=[]:=List.eq_nil_of_length_eq_zero h0
        subst this
        exact⟨S1,LCall.ofP (k:=1) (p_markValueS_nil (gl:=S1.gl) (q+3)) rfl,Marked.refl S1⟩
      · have hsz:SizeOf.sizeOf lv<SizeOf.sizeOf l:=by
          have:=List.sizeOf_lt_of_mem (List.getElem_mem hi2)
          rw[hv] at this
          simp only[Val.mk.sizeOf_spec] at this
          omega
        have hids:=(markLds_sh lv csx (q+3) h1).2
        refine⟨_,l_markValueS e lv S1 bx (q+3) csx h1 ⟨?_,?_,?_⟩ (by omega) (by omega),?_⟩
        · simpa[varsL] using fun p hp=>(hv1 p hp).1
        · simpa[varsL] using hv2
        · simpa[varsL] using fun p hp=>(hv1 p hp).2
        · refine Marked.left ?_
          simp only[ids] at hids
          simp only[List.map_cons,hids]
          simpa[Ld.vars] using hv2
    have hnx:S0.nx≤S.nx:=by have:=hk.nx;simp at this;omega
    have hin:∀ p∈varsL (done++.d (.int .i64 k)::.d (.int .i64 m)::.d (.string t)::X::Y::rest),p.1≠b∧p.1<S0.nx:=fun p hp=>by
      have:p.1∈ids cs:=by rw[← hid];exact List.mem_map_of_mem hp
      obtain⟨p',h1',h2'⟩:=List.mem_map.1 this
      refine⟨fun e=>hnd.1 (List.mem_map.2 ⟨p',h1',by rw[h2',e]⟩),?_⟩
      rw[← h2'];exact hrg p' h1'
    have hnd2:(ids (done++.d (.int .i64 k)::.d (.int .i64 m)::.d (.string t)::X::Y::rest)).Nodup:=by rw[hid];exact hnd.2
    have ev:varsL (done++.d (.int .i64 k)::.d (.int .i64 m)::.d (.string t)::X::Y::rest)=varsL done++(X.vars++(Y.vars++varsL rest)):=by
      simp[varsL_app,varsL,Ld.vars]
    rw[ev] at hin hh
    simp only[ids,ev,List.map_append] at hnd2
    obtain⟨nd1,nd2,nd3⟩:=List.nodup_append.1 hnd2
    obtain⟨nd4,nd5,nd6⟩:=List.nodup_append.1 nd2
    obtain⟨nd7,nd8,nd9⟩:=List.nodup_append.1 nd5
    have bnd:∀ p∈X.vars,¬ p.1=b:=fun p hp=>(hin p (by simp[hp])).1
    have bnY:∀ p∈Y.vars,¬ p.1=b:=fun p hp=>(hin p (by simp[hp])).1
    refine⟨by omega,?_⟩
    refine CallT_ex (hX' _ _ (by omega) (fun p hp=>⟨by have:=hh p (by simp[hp]);simpa[bnd p hp] using this,by have:=(hin p (by simp[hp])).2;simp;omega⟩) nd4) (fun S2 hM=>?_)
    have hXi:(rowMap (fun cs=>markLds lv cs (q+3)) X).vars.map (fun p=>p.1)=X.vars.map (fun p=>p.1):=by
      rcases ld_row hX with ⟨rfl,h0,_⟩ | ⟨bx,csx,rfl,h1,_⟩
      · rfl
      · have hids:=(markLds_sh lv csx (q+3) h1).2
        simp only[ids] at hids
        simp only[rowMap_row,Ld.vars,List.map_cons,hids]
    have hBb2:S2.B b=some (svs done++.d (dI q)::.d (dI ((q:Int)+1))::.d (dS (markT (q+2)))::X.sv::Y.sv::svs rest):=by
      rw[hM.old b (by simp;omega) (by rw[hXi];intro h;obtain⟨p,h1,h2⟩:=List.mem_map.1 h;exact bnd p h1 h2)]
      simp
    have hn2:S2.n=49:=by rw[hM.n];simpa using hn
    have hnx2:S.nx≤S2.nx:=by rw[hM.nx];first | (simp;done)|(simp;omega)
    have wq4:=wrap64 (n:=(q:Int)+1+1+1+cntVs lv) (by omega) (by omega)
    simp[hB,h0,h1,h5,hBb,hn,hg,hmd,c,hi2,t0,tj,dj,dj2,gj,wq1,wq2,wq3,w,hdl,hBb2,hn2,wq4]
    have out2:∀ p:Nat×List SV,p.1<S0.nx→¬ p.1=b→p.1∉X.vars.map (fun p=>p.1)→S2.B p.1=S.B p.1:=fun p hp1 hp2 hp3=>by
      rw[hM.old p.1 (by simp;omega) (by rw[hXi];exact hp3)]
      simp[hp2]
    have yX:∀ p∈Y.vars,p.1∉X.vars.map (fun p=>p.1):=fun p hp h=>nd6 _ h _ (by simp only[List.mem_append];exact .inl (List.mem_map_of_mem hp)) rfl
    have rX:∀ p∈varsL rest,p.1∉X.vars.map (fun p=>p.1):=fun p hp h=>nd6 _ h _ (by simp only[List.mem_append];exact .inr (List.mem_map_of_mem hp)) rfl
    have rY:∀ p∈varsL rest,p.1∉Y.vars.map (fun p=>p.1):=fun p hp h=>nd9 _ h _ (List.mem_map_of_mem hp) rfl
    have dX:∀ p∈varsL done,p.1∉X.vars.map (fun p=>p.1):=fun p hp h=>nd3 _ (List.mem_map_of_mem hp) _ (by simp only[List.mem_append];exact .inl h) rfl
    have dY:∀ p∈varsL done,p.1∉Y.vars.map (fun p=>p.1):=fun p hp h=>nd3 _ (List.mem_map_of_mem hp) _ (by simp only[List.mem_append];exact .inr (.inl h)) rfl
    refine CallT_ex (l_markNm e ns Y hY _ _ (q+3+cntVs lv) (by omega) (by omega) (by omega) (fun p hp=>⟨?_,?_⟩)) (fun S3 hM3=>?_)
    · show S2.B p.1=_
      rw[out2 p (hin p (by simp[hp])).2 (bnY p hp) (yX p hp)]
      exact hh p (by simp[hp])
    · have:=(hin p (by simp[hp])).2
      simp;omega
    have hYi:(markNm Y (q+3+cntVs lv)).vars.map (fun p=>p.1)=Y.vars.map (fun p=>p.1):=by
      rcases ld_names hY with ⟨rfl,rfl⟩ | ⟨by_,rfl,_⟩
      · rfl
      · simp[markNm,Ld.vars]
    have out3:∀ x,x<S0.nx→x∉Y.vars.map (fun p=>p.1)→S3.B x=S2.B x:=fun x hx h=>by
      rw[hM3.old x (by simp;omega) (by rw[hYi];exact h)];rfl
    have hBb3:S3.B b=some (svs done++.d (dI q)::.d (dI ((q:Int)+1))::.d (dS (markT (q+2)))::X.sv::Y.sv::svs rest):=by
      rw[out3 b hb (fun h=>by obtain⟨p,h1,h2⟩:=List.mem_map.1 h;exact bnY p h1 h2)]
      exact hBb2
    have hn3:S3.n=49:=by rw[hM3.n];simpa using hn2
    simp[hB,h0,h1,h5,hBb,hn,hg,hmd,c,hi2,t0,tj,dj,dj2,gj,wq1,wq2,wq3,w,hdl,hBb2,hn2,wq4,hn3,hBb3]
    have e5:markLd (.mk k m t lv ns) [.d (.int .i64 k), .d (.int .i64 m), .d (.string t),X,Y] q=[.d (.int .i64 q), .d (.int .i64 ((q+1:Nat):Int)), .d (.string (markT (q+2))),rowMap (fun cs=>markLds lv cs (q+3)) X,markNm Y (q+3+cntVs lv)]:=by simp only[markLd]
    have ev2:varsL ((done++markLd (.mk k m t lv ns) [.d (.int .i64 k), .d (.int .i64 m), .d (.string t),X,Y] q)++rest)=varsL done++((rowMap (fun cs=>markLds lv cs (q+3)) X).vars++((markNm Y (q+3+cntVs lv)).vars++varsL rest)):=by
      rw[e5];simp[varsL_app,varsL,Ld.vars]
    refine⟨⟨i+1,hi2,done++markLd (.mk k m t lv ns) [.d (.int .i64 k), .d (.int .i64 m), .d (.string t),X,Y] q,rest,q+(3+cntVs lv+ns.length),by omega,by omega,?_,?_,hr2,by omega,?_,?_,?_,?_⟩,upTo_lt h5 (by simp) hi2⟩
    · rw[e5];simp
    · rw[← hm];simp[markLds,cntV]
    · rw[e5];simp[hdl];omega
    · intro a c hac
      rw[ev2] at hac
      simp only[List.mem_append] at hac
      rcases hac with h | h | h | h
      · rw[out3 a (hin (a,c) (by simp[h])).2 (dY _ h),out2 (a,c) (hin (a,c) (by simp[h])).2 (hin (a,c) (by simp[h])).1 (dX _ h)]
        exact hh (a,c) (by simp[h])
      · have hx:a∈X.vars.map (fun p=>p.1):=by rw[← hXi];exact List.mem_map_of_mem h
        obtain⟨p,hp,e⟩:=List.mem_map.1 hx
        rw[out3 a (by rw[← e];exact (hin p (by simp[hp])).2) (fun hy=>nd6 _ hx _ (by simp only[List.mem_append];exact .inl hy) rfl)]
        exact hM.own _ h
      · exact hM3.own _ h
      · rw[out3 a (hin (a,c) (by simp[h])).2 (rY _ h),out2 (a,c) (hin (a,c) (by simp[h])).2 (hin (a,c) (by simp[h])).1 (rX _ h)]
        exact hh (a,c) (by simp[h])
    · rw[← hid]
      simp only[ids,ev,ev2,List.map_append,hXi,hYi]
    · intro x hx
      have hox:=ho x hx
      refine⟨fun h=>?_,fun h=>?_⟩
      · simp only[List.mem_cons,not_or] at h
        have hx1:x∉X.vars.map (fun p=>p.1):=fun h'=>h.2 (by rw[← hid];simp only[ids,ev,List.map_append,List.mem_append];exact .inr (.inl h'))
        have hx2:x∉Y.vars.map (fun p=>p.1):=fun h'=>h.2 (by rw[← hid];simp only[ids,ev,List.map_append,List.mem_append];exact .inr (.inr (.inl h')))
        rw[← hox.1 (by simp[h.1,h.2])]
        show S3.B x=_
        rw[out3 x hx hx2]
        exact out2 (x,[]) hx h.1 hx1
      · rw[← hox.2 h]
        show S3.T x=_
        rw[hM3.T x (by simp;omega)]
        show S2.T x=_
        rw[hM.T x (by simp;omega)]
        rfl
  · have hi3:i=l.length:=by omega
    subst hi3
    rw[List.drop_eq_nil_of_le (by omega)] at hm hr hq
    have hr0:rest=[]:=by cases rest with
      | nil=>rfl
      | cons x r=>simp[shs,valsSk] at hr
    subst hr0
    simp only[markLds,List.append_nil] at hm hh hid
    simp only[cntVs,Nat.add_zero] at hq
    subst hm
    simp[hB,h0,h1,h5,hBb,hn,hg,hmd,c]
    have hlt:∀ p∈varsL (markLds l cs n),p.1<S0.nx:=fun p hp=>by
      have:p.1∈ids cs:=by rw[← hid];exact List.mem_map_of_mem hp
      obtain⟨p',h1',h2'⟩:=List.mem_map.1 this
      rw[← h2'];exact hrg p' h1'
    obtain⟨l1,l2⟩:=lt_lds _ hlt
    refine⟨by omega,elder_old (bs:=b::ids cs) (ts:=[]) ho ?_ (by simp) ?_ (by simp) (fun x hx _ hl=>?_) (by simp)⟩
    · intro p hp
      rcases List.mem_cons.1 hp with rfl | hp
      · show S.B b=_
        rw[hBb];simp
      · exact hh p hp
    · intro p hp
      rcases List.mem_cons.1 hp with rfl | hp
      · exact⟨hb,l1⟩
      · exact⟨hlt p hp,l2 p hp⟩
    · exfalso
      have hm:x∈((b,svs (markLds l cs n))::varsL (markLds l cs n)).map (fun p=>p.1):=by
        rcases List.mem_cons.1 hx with rfl | hx
        · simp
        · rw[← hid] at hx
          exact List.mem_cons_of_mem _ hx
      obtain⟨p,hp,rfl⟩:=List.mem_map.1 hm
      have nd:(((b,svs (markLds l cs n))::varsL (markLds l cs n)).map (fun p=>p.1)).Nodup:=by
        simp only[List.map_cons,List.nodup_cons]
        simp only[ids] at hid
        rw[hid];exact hnd
      rw[lookN_of nd hp] at hl;cases hl
  termination_by SizeOf.sizeOf l
end Go.Proofs.YtbmoiajdknejnaaGreat
