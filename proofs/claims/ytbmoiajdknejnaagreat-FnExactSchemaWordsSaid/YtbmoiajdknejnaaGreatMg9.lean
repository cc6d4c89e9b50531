/- Zt and what follows it, one behind another. -/
import Derived.Test.YtbmoiajdknejnaaGreatMg8
import Derived.Test.YtbmoiajdknejnaaGreatMg5
import Derived.Test.YtbmoiajdknejnaaGreatMg4
set_option linter.unusedVariables false
set_option linter.unusedSimpArgs false
set_option maxRecDepth 100000
namespace Go.Proofs.YtbmoiajdknejnaaGreat
open Go.Sh
variable {gl:Nat→Option D}
theorem mapO_co {α β:Type}{f:α→Option β}{x:α}{r:List α}{y:β}{ys:List β} (h:f x=some y) (h':mapO f r=some ys):mapO f (x::r)=some (y::ys):=by
  simp only[mapO,h,h']
theorem frz_da {B:Nat→Option (List SV)}{k:Nat} (hk:0<k) (x:D):frz B k (.d x)=some x:=by
  cases k with
  | zero=>omega
  | succ k=>rfl
theorem frzv_da {B:Nat→Option (List SV)}{k:Nat} (hk:0<k) (x:Value):frzv B k (.d (.v x))=some (.v x):=by
  cases k with
  | zero=>omega
  | succ k=>rfl
theorem row_frz {S:St}{lo hi k:Nat}{x:Ld} (h:At S lo hi [x]) (hk:x.sh.dep<k):frz S.B k x.sv=some x.sh.data∧frzv S.B k x.sv=some x.sh.data:=frz_ld x k (fun p hp=>h.has p (by simpa[varsL] using hp)) hk
theorem call_row' {S:St}{f:FuncId}{ss:List SV}{ds:List D}{x:Sk}{n:Nat}{gl:Nat→Option D} (h:rowF1 gl f ds x) (hg:S.gl=gl) (hd:mapO (frz S.B n) ss=some ds) :
    ∃ S',LCall Tryz.prog f ss S (x.can S.nx).sv S'∧Grown S S' [x]:=call_row h hg hd
theorem call_tu {S:St}{f:FuncId}{ss:List SV}{ds:List D}{x:Sk}{v:Value}{n:Nat}{gl:Nat→Option D} (h:FCall Tryz.prog gl f ds (.tu [(x.can 0).sv, .d (.v v)]) (cntL [x]) (newL [x])) (hg:S.gl=gl) (hd:mapO (frz S.B n) ss=some ds) :
    ∃ S',LCall Tryz.prog f ss S (.tu [(x.can S.nx).sv, .d (.v v)]) S'∧Grown S S' [x]:=by
  refine⟨_,?_,Grown.add S [x]⟩
  have:=LCall.ofF (S:=S) (by rw[hg];exact h) hd
  simpa using this
theorem call_tuC {S:St}{f:FuncId}{ss:List SV}{ds:List D}{x:Sk}{v:Value}{n:Nat} (h:FCall Tryz.prog clGl f ds (.tu [(x.can 0).sv, .d (.v v)]) (cntL [x]) (newL [x])) (hd:mapO (frzv S.B n) ss=some ds) :
    ∃ S',LCall Tryz.prog f ss S (.tu [(x.can S.nx).sv, .d (.v v)]) S'∧Grown S S' [x]:=by
  refine⟨_,?_,Grown.add S [x]⟩
  have:=LCall.ofFc (S:=S) clGl_none clGl_some h hd
  simpa using this
abbrev skF (l:List Def):Sk:=skR false l.length (defsSk false l)
theorem defsF_flat {f:Nat}{ds:List D}{R:List Def×Bool} (h:defsF gl f ds R):FCall Tryz.prog gl f ds (.tu [((skF R.1).can 0).sv, .d (dB R.2)]) (cntL [skF R.1]) (newL [skF R.1]):=by
  have:=fcall_flat (cs:=[skDefs R.1]) h
  have e:flatS [skDefs R.1]=[skF R.1]:=by simp[flatS,skDefs_flat]
  rw[e] at this
  have e2:(SV.tu [((skDefs R.1).can 0).sv, .d (dB R.2)]).fg=.tu [((skF R.1).can 0).sv, .d (dB R.2)]:=by
    simp only[SV.fg,fgS, ← flat_sv,skDefs_flat]
  rw[e2] at this
  exact this
theorem p_szDefS (l:List Def) (hl:l.length≤4611686018427387904) (hok:∀ d∈l,DefOk d) (left:Int) (h0:0≤left) (hb:left≤4611686018427387904):PCall Tryz.prog gl 23 [defsD l,dI left] (dI (szRow szD l left)) :=
  p_szDefS_of l hl (fun i hi r h0 hb=>p_szDef l[i] (hok _ (List.getElem_mem hi)) r h0 hb) (fun x _=>szD_le x) left h0 hb
theorem p_toDefS (l:List Def) (hl:l.length≤1048576) (hs:∀ d∈l,DefSm d):PCall Tryz.prog gl 25 [defsD l] (defsD l):=p_toDefS_of l hl fun i hi=>p_toDef l[i] (hs _ (List.getElem_mem hi))
theorem p_eqDefS (l:List Def) (hl:l.length≤4611686018427387904) (hok:∀ d∈l,DefOk d):PCall Tryz.prog gl 27 [defsD l,defsD l] (dB true):=p_eqDefS_of l hl fun i hi=>p_eqDef l[i] (hok _ (List.getElem_mem hi))
theorem defs_small (l:List Def) (h:0≤szRow szD l 1048576):l.length≤1048576∧∀ d∈l,DefSm d:=by
  obtain⟨a,b⟩:=szRow_small (f:=szD) (l:=l) (fun x _=>szD_le x) (r:=1048576) (by omega) h
  refine⟨by omega,fun d hd=>?_⟩
  obtain⟨q,q1,q2,q3⟩:=b d hd
  exact szD_small d q q2 q3
theorem more_wordR (nm w:ByteArray) (l:List Def):moreR nm w l=wordR nm w l:=by
  unfold moreR wordR
  split
  · rename_i h;exact more_eq h
  · rfl
theorem cntR_set (w:ByteArray):∀ (l:List Def) (k:Nat) (h:k<l.length),cntR cntDf (l.set k (addW w l[k]))=cntR cntDf l+1
  | d::r,0,_=>by simp only[List.set_cons_zero,List.getElem_cons_zero,cntR,cntDf,addW,List.length_append,List.length_singleton];omega
  | d::r,k+1,h=>by
    have:=cntR_set w r k (by simpa using h)
    simp only[List.set_cons_succ,List.getElem_cons_succ,cntR,this];omega
theorem wordR_small {nm w:ByteArray}{l:List Def} (hl:l.length≤1048576) (hsm:∀ d∈l,DefSm d) (hw:w.size≤1048576):(wordR nm w l).1.length≤1048576∧(∀ d∈(wordR nm w l).1,DefSm d)∧cntR cntDf (wordR nm w l).1≤cntR cntDf l+1:=by
  unfold wordR
  split
  · rename_i c
    unfold wordS
    cases atD l nm with
    | none=>exact⟨hl,hsm,by simp⟩
    | some k =>
      simp only
      split
      · rename_i hk
        split
        · split
          · refine⟨by simpa using hl,fun d hd=>?_,by rw[cntR_set];simp⟩
            rcases List.mem_or_eq_of_mem_set hd with hd | rfl
            · exact hsm d hd
            · have s1:=hsm _ (List.getElem_mem hk)
              have hwl:=(def_one ((check_once c).2.2 _ (List.getElem_mem hk)) s1).2
              refine⟨s1.1,s1.2.1,?_,fun s hs=>?_⟩
              · simp only[addW,List.length_append,List.length_singleton];omega
              · simp only[addW,List.mem_append,List.mem_singleton] at hs
                rcases hs with hs | rfl
                · exact s1.2.2.2 s hs
                · exact hw
          · exact⟨hl,hsm,by simp⟩
        · exact⟨hl,hsm,by simp⟩
      · exact⟨hl,hsm,by simp⟩
  · exact⟨by simp,by simp,by simp[cntR]⟩
set_option maxHeartbeats 8000000 in
theorem p_lawSchemaWords (l:List Def) (nm w:ByteArray) (hl:l.length≤4611686018427387904) (hok:∀ d∈l,DefOk d) (hnm:nm.size≤4611686018427387904) (hw:w.size≤4611686018427387904):PCall Tryz.prog gl 9 [defsD l,dS nm,dS w] (dB true):=by
  refine PCall.by_ (md:=[]) Tryz.func9 rfl (by kernel_rfl) (n:=112) Tryz.ntmps9 (by simp) (by decide) rfl ?_
  simp
  refine BrT.dec (fun c0=>?_) (fun c0=>?_)
  case refine_1=>simp[c0]
  simp[c0]
  refine BrT.dec (fun c1=>?_) (fun c1=>?_)
  case refine_1=>simp[c0,c1]
  simp[c0,c1]
  repeat refine⟨DrawT.mk (by kernel_rfl),?_⟩
  refine CallT.p0 (p_szDefS l hl hok 1048576 (by omega) (by omega)) (by first | rfl | (simp;done)|(simp[c0,c1];done)) (by first | rfl | (simp;done)|(simp;rfl)|(simp[c0,c1];done)) ?_
  simp[c0,c1]
  refine BrT.dec (fun c2=>?_) (fun c2=>?_)
  case refine_1=>simp[c0,c1,c2]
  have hs:=defs_small l (Int.not_lt.1 c2)
  have hlf:=leaf_defs l (Int.not_lt.1 c2)
  rw[(defs_mk true l 0).2] at hlf
  have hT:=p_toDefS (gl:=gl) l hs.1 hs.2
  have hw2:w.size≤1048576:=by omega
  have hW:=g_spSchemaWords (gl:=gl) l nm w hs.1 hs.2 hw2
  have hM:=gz_SchemaWords (gl:=clGl) clGl_clean l nm w hs.1 hs.2 hw2
  rw[more_wordR] at hM
  have hM:=defsF_flat hM
  obtain⟨r1,r2,r3⟩:=wordR_small (nm:=nm) hs.1 hs.2 hw2
  generalize wordR nm w l=R at hW hM r1 r2 r3
  obtain⟨rl,rb⟩:=R
  simp only at hW hM r1 r2 r3
  have hE:∀ gl:Nat→Option D,PCall Tryz.prog gl 27 [defsD rl,defsD rl] (dB true):=fun gl=>p_eqDefS rl (by omega) fun d hd=>def_ok (r2 d hd)
  simp[c0,c1,c2]
  repeat refine⟨DrawT.mk (by kernel_rfl),?_⟩
  refine CallT.p0 (hT) (by first | rfl | (simp;done)|(simp[c0,c1,c2];done)) (by first | rfl | (simp;done)|(simp;rfl)|(simp[c0,c1,c2];done)) ?_
  simp[c0,c1,c2]
  refine CallT_ex (call_tu (n:=1) hW (by rfl) (mapO_co (frz_da (by omega) _) (mapO_co (frz_da (by omega) _) (mapO_co (frz_da (by omega) _) rfl)))) (fun S1 h1=>?_)
  have n1:S1.n=112:=by rw[h1.n];simp
  have gl1:S1.gl=gl:=by rw[h1.gl];rfl
  have atW:=h1.new
  have nx1:=h1.nx
  simp only[St.adv,startS,Nat.reduceAdd] at atW nx1
  obtain⟨KW,hKW⟩:∃ K,cntL [skDefs rl]=K:=⟨_,rfl⟩
  rw[hKW] at atW nx1
  obtain⟨W,hWd⟩:∃ W,(skDefs rl).can 24=W:=⟨_,rfl⟩
  have atW:At S1 24 (24+KW) [W]:=by rw[← hWd];exact atW
  have hWs:W.sh=skDefs rl:=by rw[← hWd,can_sh]
  have w1:W.sv.one=true:=by rw[← hWd];simp
  have w2:W.sv.cells=[W.sv]:=by rw[← hWd];simp
  have frW:∀ S:St,At S 24 (24+KW) [W]→∀ k,W.sh.dep<k→frz S.B k W.sv=some (defsD rl):=fun S h k hk=>by
    have:=(row_frz h hk).1
    rw[this,hWs,skDefs_data]
  simp[c0,c1,c2,n1,gl1,hWd,w1,w2]
  refine CallT_ex (call_row' (n:=1) (g_toDefS l hs.1 hs.2) gl1 (mapO_co (frz_da (by omega) _) rfl)) (fun S2 h2=>?_)
  have n2:S2.n=112:=by rw[h2.n];simpa using n1
  have gl2:S2.gl=gl:=by rw[h2.gl];exact gl1
  have nx2:=h2.nx
  have atX:=h2.new
  obtain⟨KX,hKX⟩:∃ K,cntL [skR true l.length (defsSk true l)]=K:=⟨_,rfl⟩
  obtain⟨qx,hqx⟩:∃ q,S1.nx+3=q:=⟨_,rfl⟩
  obtain⟨X,hX⟩:∃ X,X=(skR true l.length (defsSk true l)).can qx:=⟨_,rfl⟩
  have nx2:S2.nx=qx+KX:=by rw[nx2,hKX, ← hqx];rfl
  have atX:At S2 qx (qx+KX) [X]:=by rw[hX, ← hqx, ← hKX];exact atX
  have atW2:At S2 24 (24+KW) [W]:=(atW.mono (S':=S1.adv 3) rfl).grown h2 (by simp;omega)
  have hXs:X.sh=skR true l.length (defsSk true l):=by rw[hX,can_sh]
  have hXv:X.sv=.os qx 0 l.length:=by rw[hX];simp
  have hXd:X.sh.data=defsD l:=by rw[hXs,defsSk_row]
  have frX:∀ S:St,At S qx (qx+KX) [X]→frz S.B (X.sh.dep+1) (.os qx 0 l.length)=some (defsD l)∧frzv S.B (X.sh.dep+1) (.os qx 0 l.length)=some (defsD l):=fun S h=>by
    have:=row_frz h (k:=X.sh.dep+1) (by omega)
    rw[hXv,hXd] at this
    exact this
  simp[c0,c1,c2,n1,gl1,hWd,w1,w2,n2,gl2,hqx]
  refine CallT_ex (call_tuC (n:=X.sh.dep+1) hM (mapO_co (frX _ (atX.mono rfl)).2 (mapO_co (frzv_da (by omega) _) (mapO_co (frzv_da (by omega) _) rfl)))) (fun S3 h3=>?_)
  have n3:S3.n=112:=by rw[h3.n];simpa using n2
  have gl3:S3.gl=gl:=by rw[h3.gl];exact gl2
  have nx3:=h3.nx
  have atG:=h3.new
  obtain⟨KG,hKG⟩:∃ K,cntL [skF rl]=K:=⟨_,rfl⟩
  obtain⟨qg,hqg⟩:∃ q,S2.nx+9=q:=⟨_,rfl⟩
  obtain⟨G,hG⟩:∃ G,(skF rl).can qg=G:=⟨_,rfl⟩
  have nx3:S3.nx=qg+KG:=by rw[nx3,hKG, ← hqg];rfl
  have atG:At S3 qg (qg+KG) [G]:=by rw[← hG, ← hqg, ← hKG];exact atG
  have atW3:At S3 24 (24+KW) [W]:=(atW2.mono (S':=S2.adv 9) rfl).grown h3 (by simp;omega)
  have atX3:At S3 qx (qx+KX) [X]:=(atX.mono (S':=S2.adv 9) rfl).grown h3 (by simp;omega)
  have hGs:G.sh=skF rl:=by rw[← hG,can_sh]
  have hGd:G.sh.data=defsD rl:=by rw[hGs,defsSk_row]
  have g1:G.sv.one=true:=by rw[← hG];simp
  have g2:G.sv.cells=[G.sv]:=by rw[← hG];simp
  have frG:∀ S:St,At S qg (qg+KG) [G]→∀ k,G.sh.dep<k→frz S.B k G.sv=some (defsD rl):=fun S h k hk=>by
    rw[(row_frz h hk).1,hGd]
  simp[c0,c1,c2,n1,gl1,hWd,w1,w2,n2,gl2,hqx,n3,gl3,hqg,hG,g1,g2]
  refine CallT.l (LCall.ofP (k:=G.sh.dep+W.sh.dep+1) (hE _) (mapO_co (frG _ (atG.mono rfl) _ (by omega)) (mapO_co (frW _ (atW3.mono rfl) _ (by omega)) rfl))) rfl ?_
  simp[c0,c1,c2,n1,gl1,hWd,w1,w2,n2,gl2,hqx,n3,gl3,hqg,hG,g1,g2]
  repeat refine⟨DrawT.mk (by kernel_rfl),?_⟩
  refine CallT.p0 (hT) (by first | rfl | (simp;done)|(simp[c0,c1,c2,n1,gl1,hWd,w1,w2,n2,gl2,hqx,n3,gl3,hqg,hG,g1,g2];done)) (by first | rfl | (simp;done)|(simp;rfl)|(simp[c0,c1,c2,n1,gl1,hWd,w1,w2,n2,gl2,hqx,n3,gl3,hqg,hG,g1,g2];done)) ?_
  simp[c0,c1,c2,n1,gl1,hWd,w1,w2,n2,gl2,hqx,n3,gl3,hqg,hG,g1,g2]
  refine CallT.l (LCall.ofP (k:=X.sh.dep+1) (p_eqDefS l hl hok) (mapO_co (frX _ (atX3.mono rfl)).1 (mapO_co (frz_da (by omega) _) rfl))) rfl ?_
  simp[c0,c1,c2,n1,gl1,hWd,w1,w2,n2,gl2,hqx,n3,gl3,hqg,hG,g1,g2]
  have hlX:X.sh.leaf=cntR cntDf l:=by rw[hXs,leaf_skR true (fun h=>by rw[List.eq_nil_of_length_eq_zero h];rfl),(defs_mk true l 0).2]
  have hmk:∀ S:St,qx+KX≤S.nx→At S qx (qx+KX) [X]→∃ S',LCall Tryz.prog 33 [.os qx 0 l.length, .d (dI 1)] S (.d (dI ((1+cntR cntDf l:Nat):Int))) S'∧Went S S' (X.vars.map (fun p=>p.1)):=fun S hx h=>by
    obtain⟨S',c1,c2,_⟩:=marks_def true l X hXs S (qx+KX) 1 (by omega) (by omega) hx (h.le (by omega) (by omega))
    rw[hXv,hlX] at c1
    exact⟨S',c1,c2⟩
  have hXr:∀ x∈X.vars.map (fun p=>p.1),qx≤x∧x<qx+KX:=fun x hx=>by
    obtain⟨p,hp,rfl⟩:=List.mem_map.1 hx
    exact atX3.rng p (by simpa[varsL] using hp)
  refine CallT_ex (hmk _ (by simp;omega) (atX3.mono rfl)) (fun S4 h4=>?_)
  have n4:S4.n=112:=by rw[h4.n];simpa using n3
  have gl4:S4.gl=gl:=by rw[h4.gl];exact gl3
  have nx4:qg+KG≤S4.nx:=by rw[h4.nx];simp;omega
  have atG4:At S4 qg (qg+KG) [G]:=(atG.mono (S':=(((S3.adv 9).adv 5).adv 1).adv 4) rfl).keep (fun b h1 h2=>h4.old b (by simp;omega) (fun hb=>by have:=hXr b hb;omega))
  have atW4:At S4 24 (24+KW) [W]:=(atW3.mono (S':=(((S3.adv 9).adv 5).adv 1).adv 4) rfl).keep (fun b h1 h2=>h4.old b (by simp;omega) (fun hb=>by have:=hXr b hb;omega))
  have k0:¬ ((1:Int)+cntR cntDf l<0):=by omega
  simp[c0,c1,c2,n1,gl1,hWd,w1,w2,n2,gl2,hqx,n3,gl3,hqg,hG,g1,g2,n4,gl4,k0]
  refine CallT.l (LCall.ofP (k:=G.sh.dep+W.sh.dep+1) (hE _) (mapO_co (frG _ (atG4.mono rfl) _ (by omega)) (mapO_co (frW _ (atW4.mono rfl) _ (by omega)) rfl))) rfl ?_
  simp[c0,c1,c2,n1,gl1,hWd,w1,w2,n2,gl2,hqx,n3,gl3,hqg,hG,g1,g2,n4,gl4,k0]
  have hlG:G.sh.leaf=cntR cntDf rl:=by rw[hGs,leaf_skR false (fun h=>by rw[List.eq_nil_of_length_eq_zero h];rfl),(defs_mk false rl 0).2]
  have hGr:G.rowish=true:=rowish_sk (e:=false) (n:=rl.length) hGs
  have hmg:∀ S:St,qg+KG≤S.nx→At S qg (qg+KG) [G]→∃ S',LCall Tryz.prog 33 [G.sv, .d (dI 1)] S (.d (dI ((1+cntR cntDf rl:Nat):Int))) S'∧Went S S' (G.vars.map (fun p=>p.1))∧At S' 0 (qg+KG) [G.mk 1]:=fun S hx h=>by
    obtain⟨S',c1,c2,c3⟩:=marks_def false rl G hGs S (qg+KG) 1 (by omega) (by rw[hlG];omega) hx (h.le (by omega) (by omega))
    rw[hlG] at c1
    exact⟨S',c1,c2,c3⟩
  have hGv:∀ x∈G.vars.map (fun p=>p.1),qg≤x∧x<qg+KG:=fun x hx=>by
    obtain⟨p,hp,rfl⟩:=List.mem_map.1 hx
    exact atG.rng p (by simpa[varsL] using hp)
  refine CallT_ex (hmg _ (by simp;omega) (atG4.mono rfl)) (fun S5 h5=>?_)
  obtain⟨h5,at5⟩:=h5
  have n5:S5.n=112:=by rw[h5.n];simpa using n4
  have gl5:S5.gl=gl:=by rw[h5.gl];exact gl4
  have nx5:qg+KG≤S5.nx:=by rw[h5.nx];simp;omega
  have atW5:At S5 24 (24+KW) [W]:=(atW4.mono (S':=((S4.adv 13).adv 1).adv 4) rfl).keep (fun b h1 h2=>h5.old b (by simp;omega) (fun hb=>by have:=hGv b hb;omega))
  have frM:∀ S:St,At S 0 (qg+KG) [G.mk 1]→frz S.B ((G.mk 1).sh.dep+1) G.sv=some (defsD (markR markDf cntDf rl 1)):=fun S h=>by
    have:=(row_frz h (k:=(G.mk 1).sh.dep+1) (by omega)).1
    rw[mk_sv hGr,mk_sh,hGs,defs_mkdata] at this
    rw[mk_sh,hGs]
    exact this
  have hheld:∀ S:St,At S 0 (qg+KG) [G.mk 1]→LCall Tryz.prog 34 [G.sv, .d (dI 1)] S (.d (dI ((1+cntR cntDf rl:Nat):Int))) S:=fun S h =>
    LCall.ofP (k:=(G.mk 1).sh.dep+1) (p_heldDefS rl 1 (by omega) (by omega)) (mapO_co (frM _ h) (mapO_co (frz_da (by omega) _) rfl))
  simp[c0,c1,c2,n1,gl1,hWd,w1,w2,n2,gl2,hqx,n3,gl3,hqg,hG,g1,g2,n4,gl4,k0,n5,gl5]
  refine CallT.l (hheld _ (at5.mono rfl)) rfl ?_
  have k1:¬ ((1:Int)+cntR cntDf rl<0):=by omega
  simp[c0,c1,c2,n1,gl1,hWd,w1,w2,n2,gl2,hqx,n3,gl3,hqg,hG,g1,g2,n4,gl4,k0,n5,gl5,k1]
  refine CallT_ex (call_row' (n:=1) (g_toDefS l hs.1 hs.2) (by simpa using gl5) (mapO_co (frz_da (by omega) _) rfl)) (fun S6 h6=>?_)
  have n6:S6.n=112:=by rw[h6.n];simpa using n5
  have gl6:S6.gl=gl:=by rw[h6.gl];simpa using gl5
  have nx6:=h6.nx
  have atY:=h6.new
  obtain⟨qy,hqy⟩:∃ q,S5.nx+1+4+2+3+10=q:=⟨_,rfl⟩
  obtain⟨Y,hY⟩:∃ Y,Y=(skR true l.length (defsSk true l)).can qy:=⟨_,rfl⟩
  have nx6:S6.nx=qy+KX:=by rw[nx6,hKX, ← hqy];rfl
  have atY:At S6 qy (qy+KX) [Y]:=by rw[hY, ← hqy, ← hKX];exact atY
  have at6:At S6 0 (qg+KG) [G.mk 1]:=(at5.mono (S':=((((S5.adv 1).adv 4).adv 2).adv 3).adv 10) rfl).grown h6 (by simp;omega)
  have atW6:At S6 24 (24+KW) [W]:=(atW5.mono (S':=((((S5.adv 1).adv 4).adv 2).adv 3).adv 10) rfl).grown h6 (by simp;omega)
  have hYv:Y.sv=.os qy 0 l.length:=by rw[hY];simp
  have hYd:Y.sh.data=defsD l:=by rw[hY,can_sh,defsSk_row]
  have frY:∀ S:St,At S qy (qy+KX) [Y]→frzv S.B (Y.sh.dep+1) (.os qy 0 l.length)=some (defsD l):=fun S h=>by
    have:=(row_frz h (k:=Y.sh.dep+1) (by omega)).2
    rw[hYv,hYd] at this
    exact this
  simp[c0,c1,c2,n1,gl1,hWd,w1,w2,n2,gl2,hqx,n3,gl3,hqg,hG,g1,g2,n4,gl4,k0,n5,gl5,k1,n6,gl6,hqy]
  refine CallT_ex (call_tuC (n:=Y.sh.dep+1) hM (mapO_co (frY _ (atY.mono rfl)) (mapO_co (frzv_da (by omega) _) (mapO_co (frzv_da (by omega) _) rfl)))) (fun S7 h7=>?_)
  have n7:S7.n=112:=by rw[h7.n];simpa using n6
  have gl7:S7.gl=gl:=by rw[h7.gl];simpa using gl6
  have atH:=h7.new
  obtain⟨H,hH⟩:∃ H,(skF rl).can S6.nx=H:=⟨_,rfl⟩
  have atH:At S7 S6.nx (S6.nx+KG) [H]:=by rw[← hH, ← hKG];exact atH
  have at7:At S7 0 (qg+KG) [G.mk 1]:=at6.grown h7 (by omega)
  have atW7:At S7 24 (24+KW) [W]:=atW6.grown h7 (by omega)
  have hHs:H.sh=skF rl:=by rw[← hH,can_sh]
  have hHd:H.sh.data=defsD rl:=by rw[hHs,defsSk_row]
  have e1:H.sv.one=true:=by rw[← hH];simp
  have e2:H.sv.cells=[H.sv]:=by rw[← hH];simp
  have frH:∀ S:St,At S S6.nx (S6.nx+KG) [H]→∀ k,H.sh.dep<k→frz S.B k H.sv=some (defsD rl):=fun S h k hk=>by
    rw[(row_frz h hk).1,hHd]
  simp[c0,c1,c2,n1,gl1,hWd,w1,w2,n2,gl2,hqx,n3,gl3,hqg,hG,g1,g2,n4,gl4,k0,n5,gl5,k1,n6,gl6,hqy,n7,gl7,hH,e1,e2]
  refine CallT.l (LCall.ofP (k:=H.sh.dep+W.sh.dep+1) (hE _) (mapO_co (frH _ (atH.mono rfl) _ (by omega)) (mapO_co (frW _ (atW7.mono rfl) _ (by omega)) rfl))) rfl ?_
  simp[c0,c1,c2,n1,gl1,hWd,w1,w2,n2,gl2,hqx,n3,gl3,hqg,hG,g1,g2,n4,gl4,k0,n5,gl5,k1,n6,gl6,hqy,n7,gl7,hH,e1,e2]
  refine CallT.l (hheld _ (at7.mono rfl)) rfl ?_
  simp[c0,c1,c2,n1,gl1,hWd,w1,w2,n2,gl2,hqx,n3,gl3,hqg,hG,g1,g2,n4,gl4,k0,n5,gl5,k1,n6,gl6,hqy,n7,gl7,hH,e1,e2]
end Go.Proofs.YtbmoiajdknejnaaGreat
namespace Go.Proofs.YtbmoiajdknejnaaGreat
open Go.Sh
theorem opens_names (t:TypeId) (ht:Tryz.prog.underlying t=some (.slice 9)):∀ n,Opens Tryz.prog n t 1 (fun l:List ByteArray=>[namesD l]) (fun l=>l.length≤8796093022207∧∀ s∈l,s.size≤140737488351232)
  | 0=>Opens.zero
  | n + 1 => Opens.map (fun l => l) (fun l _ => by simp only [namesD, map_flat]) (fun l h => ⟨by have := h.1; omega, h.2⟩)
      (Opens.slice (k:=1) (by_:=16) (e:=fun s:ByteArray=>[dS s]) ht (by kernel_rfl) (by omega) (by kernel_rfl) (Opens.string (by kernel_rfl) n))
theorem names_ok {l:List ByteArray} (h:l.length≤8796093022207∧∀ s∈l,s.size≤140737488351232):NamesOk l:=⟨by omega,fun s hs=>by have:=h.2 s hs;omega⟩
theorem opens_val:∀ n,Opens Tryz.prog n 77 5 Val.cells WF
  | 0=>Opens.zero
  | n+1=>by
    have hl:Opens Tryz.prog n 75 1 (fun l:List Val=>[.ps (l.flatMap Val.cells) l.length]) (fun l=>l.length≤140737488351232∧∀ v∈l,WF v):=by
      cases n with
      | zero=>exact Opens.zero
      | succ m=>exact (Opens.slice (k:=5) (by_:=80) (by kernel_rfl) (by kernel_rfl) (by omega) (by kernel_rfl) (opens_val m)).mono (fun l h=>⟨by have:=h.1;omega,h.2⟩)
    refine Opens.map (fun p:Int×Int×ByteArray×List Val×List ByteArray×Unit=>Val.mk p.1 p.2.1 p.2.2.1 p.2.2.2.1 p.2.2.2.2.1) ?_ ?_ (OpensFrom.struct (by kernel_rfl) (by kernel_rfl)
      (.cons (k:=1) (s:=3) (by kernel_rfl) (by kernel_rfl) (Opens.int (k:=.i64) (by kernel_rfl) n)
      (.cons (k:=1) (s:=3) (by kernel_rfl) (by kernel_rfl) (Opens.int (k:=.i64) (by kernel_rfl) n)
      (.cons (k:=1) (s:=9) (by kernel_rfl) (by kernel_rfl) (Opens.string (by kernel_rfl) n)
      (.cons (k:=1) (s:=75) (by kernel_rfl) (by kernel_rfl) hl
      (.cons (k:=1) (s:=27) (by kernel_rfl) (by kernel_rfl) (opens_names _ (by kernel_rfl) n) .nil))))))
    · intro p _;simp[Val.cells,valsCells_row]
    · unfold IntKind.min IntKind.max
      rintro ⟨a,b,c,d,e,u⟩ ⟨h1,h2,h3,h4,h5,_⟩
      exact .mk (by omega) (names_ok h5) (by omega) h4.2
end Go.Proofs.YtbmoiajdknejnaaGreat
namespace Go.Proofs.YtbmoiajdknejnaaGreat
open Go.Sh
variable {gl:Nat→Option D}
def chain:List (Int→Int)→Int→Int
  | [],r=>r
  | f::fs,r=>if f r<0 then -1 else chain fs (f r)
structure Giv where
  name:ByteArray
  val:Val
def Giv.cells (a:Giv):List D:=[dS a.name]++a.val.cells
abbrev Giv.d (a:Giv):D:=.agg a.cells
def givesCells (l:List Giv):List D:=l.flatMap Giv.cells
abbrev givesD (l:List Giv):D:=.ps (givesCells l) l.length
structure GivOk (a:Giv):Prop where
  name:a.name.size≤4611686018427387904
  val:WF a.val
structure GivSm (a:Giv):Prop where
  name:a.name.size≤1048576
  val:Small a.val
def szG (a:Giv) (left:Int):Int:=chain [fun r:Int=>r - a.name.size,szV a.val] left
structure Whn where
  neg:Bool
  val:Val
def Whn.cells (a:Whn):List D:=[dB a.neg]++a.val.cells
abbrev Whn.d (a:Whn):D:=.agg a.cells
def whensCells (l:List Whn):List D:=l.flatMap Whn.cells
abbrev whensD (l:List Whn):D:=.ps (whensCells l) l.length
structure WhnOk (a:Whn):Prop where
  val:WF a.val
structure WhnSm (a:Whn):Prop where
  val:Small a.val
def szW (a:Whn) (left:Int):Int:=chain [szV a.val] left
inductive Sel where
  | mk (kind:Int) (alias:ByteArray) (name:ByteArray) (args:List Giv) (whens:List Whn) (sels:List Sel)
  deriving Inhabited
mutual
def Sel.cells:Sel→List D
  | .mk kind alias name args whens sels=>[dI kind]++[dS alias]++[dS name]++[givesD args]++[whensD whens]++[.ps (selsCells sels) sels.length]
def selsCells:List Sel→List D
  | []=>[]
  | v::r=>v.cells++selsCells r
end
abbrev Sel.d (a:Sel):D:=.agg a.cells
abbrev selsD (l:List Sel):D:=.ps (selsCells l) l.length
inductive SelOk:Sel→Prop
  | mk {kind:Int} {alias name:ByteArray} {args:List Giv} {whens:List Whn} {sels:List Sel} (ha:alias.size≤4611686018427387904) (hn:name.size≤4611686018427387904) (hg:args.length≤4611686018427387904∧∀ x∈args,GivOk x) (hw:whens.length≤4611686018427387904∧∀ x∈whens,WhnOk x) (hl:sels.length≤4611686018427387904) (h:∀ s∈sels,SelOk s):SelOk (.mk kind alias name args whens sels)
inductive SelSm:Sel→Prop
  | mk {kind:Int} {alias name:ByteArray} {args:List Giv} {whens:List Whn} {sels:List Sel} (ha:alias.size≤1048576) (hn:name.size≤1048576) (hg:args.length≤1048576∧∀ x∈args,GivSm x) (hw:whens.length≤1048576∧∀ x∈whens,WhnSm x) (hl:sels.length≤1048576) (h:∀ s∈sels,SelSm s):SelSm (.mk kind alias name args whens sels)
abbrev selSteps (al nm:ByteArray) (args:List Giv) (whens:List Whn):List (Int→Int):=[fun r:Int=>r - al.size,fun r:Int=>r - nm.size,szRow szG args,szRow szW whens]
mutual
def szS:Sel→Int→Int
  | .mk _ al nm args whens sels,left=>if chain (selSteps al nm args whens) left<0 then -1 else if szSs sels (chain (selSteps al nm args whens) left)<0 then -1 else szSs sels (chain (selSteps al nm args whens) left)
def szSs:List Sel→Int→Int
  | l,left=>if left - l.length<0 then -1 else szSgo l (left - l.length)
def szSgo:List Sel→Int→Int
  | [],r=>r
  | v::l,r=>if szS v r<0 then -1 else szSgo l (szS v r)
end
structure Opn where
  change:Bool
  name:ByteArray
  vars:List Arg
  sels:List Sel
def Opn.cells (a:Opn):List D:=[dB a.change]++[dS a.name]++[argsD a.vars]++[selsD a.sels]
abbrev Opn.d (a:Opn):D:=.agg a.cells
def opsCells (l:List Opn):List D:=l.flatMap Opn.cells
abbrev opsD (l:List Opn):D:=.ps (opsCells l) l.length
structure OpnOk (a:Opn):Prop where
  name:a.name.size≤4611686018427387904
  vars:(a.vars.length≤4611686018427387904∧∀ x∈a.vars,ArgOk x)
  sels:(a.sels.length≤4611686018427387904∧∀ x∈a.sels,SelOk x)
structure OpnSm (a:Opn):Prop where
  name:a.name.size≤1048576
  vars:(a.vars.length≤1048576∧∀ x∈a.vars,ArgSm x)
  sels:(a.sels.length≤1048576∧∀ x∈a.sels,SelSm x)
structure Pce where
  name:ByteArray
  on:ByteArray
  sels:List Sel
def Pce.cells (a:Pce):List D:=[dS a.name]++[dS a.on]++[selsD a.sels]
abbrev Pce.d (a:Pce):D:=.agg a.cells
def pcesCells (l:List Pce):List D:=l.flatMap Pce.cells
abbrev pcesD (l:List Pce):D:=.ps (pcesCells l) l.length
structure PceOk (a:Pce):Prop where
  name:a.name.size≤4611686018427387904
  on:a.on.size≤4611686018427387904
  sels:(a.sels.length≤4611686018427387904∧∀ x∈a.sels,SelOk x)
structure PceSm (a:Pce):Prop where
  name:a.name.size≤1048576
  on:a.on.size≤1048576
  sels:(a.sels.length≤1048576∧∀ x∈a.sels,SelSm x)
structure Doc where
  ops:List Opn
  pces:List Pce
def Doc.cells (a:Doc):List D:=[opsD a.ops]++[pcesD a.pces]
abbrev Doc.d (a:Doc):D:=.agg a.cells
structure DocOk (a:Doc):Prop where
  ops:(a.ops.length≤4611686018427387904∧∀ x∈a.ops,OpnOk x)
  pces:(a.pces.length≤4611686018427387904∧∀ x∈a.pces,PceOk x)
structure DocSm (a:Doc):Prop where
  ops:(a.ops.length≤1048576∧∀ x∈a.ops,OpnSm x)
  pces:(a.pces.length≤1048576∧∀ x∈a.pces,PceSm x)
end Go.Proofs.YtbmoiajdknejnaaGreat
namespace Go.Proofs.YtbmoiajdknejnaaGreat
open Go.Sh
theorem opens_typ:∀ n,Opens Tryz.prog n 257 3 Typ.cells (TLe 4611686018427387904)
  | 0=>Opens.zero
  | n+1=>by
    have hl:Opens Tryz.prog n 255 1 (fun l:List Typ=>[.ps (l.flatMap Typ.cells) l.length]) (fun l=>l.length≤140737488351232∧∀ v∈l,TLe 4611686018427387904 v):=by
      cases n with
      | zero=>exact Opens.zero
      | succ m=>exact (Opens.slice (k:=3) (by_:=48) (by kernel_rfl) (by kernel_rfl) (by omega) (by kernel_rfl) (opens_typ m)).mono (fun l h=>⟨by have:=h.1;omega,h.2⟩)
    refine Opens.map (fun p:ByteArray×List Typ×Bool×Unit=>Typ.mk p.1 p.2.1 p.2.2.1) ?_ ?_ (OpensFrom.struct (by kernel_rfl) (by kernel_rfl)
      (.cons (k:=1) (s:=9) (by kernel_rfl) (by kernel_rfl) (Opens.string (by kernel_rfl) n)
      (.cons (k:=1) (s:=255) (by kernel_rfl) (by kernel_rfl) hl
      (.cons (k:=1) (s:=4) (by kernel_rfl) (by kernel_rfl) (Opens.bool (by kernel_rfl) n) .nil))))
    · intro p _;simp[Typ.cells,typsCells_row]
    · rintro ⟨a,b,c,u⟩ ⟨h1,h2,h3,_⟩
      exact .mk (by omega) (by have:=h2.1;omega) h2.2
theorem opens_row {α:Type}{s:TypeId}{t:TypeId}{k by_:Nat}{e:α→List D}{ok:α→Prop} (ht:Tryz.prog.underlying t=some (.slice s)) (hs:Tryz.prog.cellsOf s=k) (hk:0<k) (hby:Tryz.prog.bytesOf s=by_) (hb:1≤by_) (h:∀ n,Opens Tryz.prog n s k e ok) :
    ∀ n,Opens Tryz.prog n t 1 (fun l:List α=>[.ps (l.flatMap e) l.length]) (fun l=>l.length≤4611686018427387904∧∀ x∈l,ok x)
  | 0=>Opens.zero
  | n+1=>(Opens.slice (k:=k) (by_:=by_) ht hs hk hby (h n)).mono (fun l h=>⟨Nat.le_trans (Nat.le_trans (Nat.le_mul_of_pos_right l.length hb) h.1) (by omega),h.2⟩)
end Go.Proofs.YtbmoiajdknejnaaGreat
namespace Go.Proofs.YtbmoiajdknejnaaGreat
open Go.Sh
theorem opens_arg (n:Nat):Opens Tryz.prog n 379 10 Arg.cells ArgOk:=by
  cases n with
  | zero=>exact Opens.zero
  | succ n =>
    refine Opens.map (fun p:ByteArray×Typ×Bool×Val×Unit=>Arg.mk p.1 p.2.1 p.2.2.1 p.2.2.2.1) ?_ ?_ (OpensFrom.struct (by kernel_rfl) (by kernel_rfl)
      (.cons (k:=1) (s:=9) (by kernel_rfl) (by kernel_rfl) (Opens.string (by kernel_rfl) n)
      (.cons (k:=3) (s:=257) (by kernel_rfl) (by kernel_rfl) (opens_typ n)
      (.cons (k:=1) (s:=4) (by kernel_rfl) (by kernel_rfl) (Opens.bool (by kernel_rfl) n)
      (.cons (k:=5) (s:=77) (by kernel_rfl) (by kernel_rfl) (opens_val n) .nil)))))
    · intro p _;simp[Arg.cells]
    · rintro ⟨a,b,c,d,u⟩ ⟨h1,h2,h3,h4,_⟩
      exact⟨Nat.le_trans h1 (by omega),h2,h4⟩
theorem opens_fld (n:Nat):Opens Tryz.prog n 299 5 Fld.cells FldOk:=by
  cases n with
  | zero=>exact Opens.zero
  | succ n =>
    refine Opens.map (fun p:ByteArray×List Arg×Typ×Unit=>Fld.mk p.1 p.2.1 p.2.2.1) ?_ ?_ (OpensFrom.struct (by kernel_rfl) (by kernel_rfl)
      (.cons (k:=1) (s:=9) (by kernel_rfl) (by kernel_rfl) (Opens.string (by kernel_rfl) n)
      (.cons (k:=1) (s:=297) (by kernel_rfl) (by kernel_rfl) (opens_row (k:=10) (by_:=152) (s:=379) (by kernel_rfl) (by kernel_rfl) (by omega) (by kernel_rfl) (by omega) opens_arg n)
      (.cons (k:=3) (s:=257) (by kernel_rfl) (by kernel_rfl) (opens_typ n) .nil))))
    · intro p _;simp[Fld.cells,args_row]
    · rintro ⟨a,b,c,u⟩ ⟨h1,h2,h3,_⟩
      exact⟨Nat.le_trans h1 (by omega),h2,h3⟩
theorem opens_def (n:Nat):Opens Tryz.prog n 118 4 Def.cells DefOk:=by
  cases n with
  | zero=>exact Opens.zero
  | succ n =>
    refine Opens.map (fun p:ByteArray×Int×List Fld×List ByteArray×Unit=>Def.mk p.1 p.2.1 p.2.2.1 p.2.2.2.1) ?_ ?_ (OpensFrom.struct (by kernel_rfl) (by kernel_rfl)
      (.cons (k:=1) (s:=9) (by kernel_rfl) (by kernel_rfl) (Opens.string (by kernel_rfl) n)
      (.cons (k:=1) (s:=3) (by kernel_rfl) (by kernel_rfl) (Opens.int (k:=.i64) (by kernel_rfl) n)
      (.cons (k:=1) (s:=116) (by kernel_rfl) (by kernel_rfl) (opens_row (k:=5) (by_:=88) (s:=299) (by kernel_rfl) (by kernel_rfl) (by omega) (by kernel_rfl) (by omega) opens_fld n)
      (.cons (k:=1) (s:=27) (by kernel_rfl) (by kernel_rfl) (opens_names _ (by kernel_rfl) n) .nil)))))
    · intro p _;simp[Def.cells,flds_row]
    · unfold IntKind.min IntKind.max
      rintro ⟨a,b,c,d,u⟩ ⟨h1,h2,h3,h4,_⟩
      exact⟨Nat.le_trans h1 (by omega),h3,names_ok h4⟩
theorem opens_defs:∀ n,Opens Tryz.prog n 42 1 (fun l:List Def=>[.ps (l.flatMap Def.cells) l.length]) (fun l=>l.length≤4611686018427387904∧∀ x∈l,DefOk x) :=
  opens_row (k:=4) (by_:=72) (by kernel_rfl) (by kernel_rfl) (by omega) (by kernel_rfl) (by omega) opens_def
end Go.Proofs.YtbmoiajdknejnaaGreat
