/- Uf and what follows it, one behind another. -/
import Derived.Test.YtlmpjblmmpddeaaGreatMg8
import Derived.Test.YtlmpjblmmpddeaaGreatMg5
set_option linter.unusedVariables false
set_option linter.unusedSimpArgs false
set_option maxRecDepth 100000
namespace Go.Proofs.YtlmpjblmmpddeaaGreat
open Go.Sh
variable {gl:Nat→Option D}
set_option maxHeartbeats 2000000 in
theorem p_pgHas (l:List ByteArray) (s:ByteArray) (hl:l.length≤4611686018427387904):PCall Tryz.prog gl 20 [namesD l,dS s] (dB (memB s l)):=by
  refine PCall.by_ (md:=[]) Tryz.func20 rfl (by kernel_rfl) (n:=18) Tryz.ntmps20 (by simp) (by decide) rfl ?_
  simp
  refine LoopT.round (fun E S=>∃ (i:Nat),(i≤l.length)∧E 0=some (.d (namesD l))∧E 1=some (.d (dS s))∧E 5=some (.d (dI i))∧(memB s (l.take i)=false)) (upTo 5 l.length) ⟨0,by simp;rfl⟩ ?_
  rintro E S hk ⟨i,hi,h0,h1,h5,hp⟩
  have hn:S.n=18:=by first | (simpa using hk.n)|(have hh:=hk.n;simp at hh;exact hh)
  have hg:S.gl=gl:=by first | (simpa using hk.gl)|(have hh:=hk.gl;simp at hh;exact hh)
  have hmd:S.md=[]:=by first | (simpa using hk.md)|(have hh:=hk.md;simp at hh;exact hh)
  simp[h0,h5,hn,hg]
  have w:=wrap64 (n:=(i:Int)+1) (by omega) (by omega)
  refine BrT.dec (fun c=>?_) (fun c=>?_)
  · have hi2:i<l.length:=by omega
    simp[h0,h1,h5,hn,hg,c]
    refine BrT.dec (fun e=>?_) (fun e=>?_)
    · have hq:=memB_at hi2 e
      simp[hn,e,hq]
    · have hq:=memB_take hi2 hp e
      simp[h0,h1,h5,hn,w,e]
      exact⟨⟨i+1,hi2,by omega,hq⟩,upTo_lt h5 (by simp) hi2⟩
  · rw[List.take_of_length_le (by omega)] at hp
    simp[hn,c,hp]
theorem nm_kind {L:List Def}{i:Nat} (hi:i<L.length):(defsCells L)[i*4]?=some (dS L[i].name)∧(defsCells L)[i*4+1]?=some (dI L[i].kind)∧(defsCells L)[i*4+3]?=some (namesD L[i].words):=by
  have hlen4:List.take 4 (List.drop (i*4) (defsCells L))=[dS L[i].name,dI L[i].kind,fldsD L[i].flds,namesD L[i].words]:=defs_at L hi
  exact⟨row_get0 hlen4 (by decide) rfl,row_get hlen4 1 (by decide) rfl,row_get hlen4 3 (by decide) rfl⟩
abbrev cellS (l:List ByteArray):List SV:=l.map fun s=>.d (dS s)
structure Grown (S S':St) (cs:List Sk):Prop where
  n:S'.n=S.n
  nx:S'.nx=S.nx+cntL cs
  gl:S'.gl=S.gl
  md:S'.md=S.md
  old:∀ x,x<S.nx→S'.B x=S.B x
  T:S'.T=S.T
  new:At S' S.nx (S.nx+cntL cs) (canL S.nx cs)
theorem Grown.add (S:St) (cs:List Sk):Grown S (addS S (cntL cs) (newL cs)) cs :=
  ⟨rfl,rfl,rfl,rfl,fun x hx=>by rw[addS_B,if_pos hx],rfl,At.added S cs⟩
theorem call_row {S:St}{f:FuncId}{ss:List SV}{ds:List D}{x:Sk}{n:Nat}{gl:Nat→Option D} (h:FCall Tryz.prog gl f ds (x.can 0).sv (cntL [x]) (newL [x])) (hg:S.gl=gl) (hd:mapO (frz S.B n) ss=some ds) :
    ∃ S',LCall Tryz.prog f ss S (x.can S.nx).sv S'∧Grown S S' [x]:=by
  refine⟨_,?_,Grown.add S [x]⟩
  have:=LCall.ofF (S:=S) (by rw[hg];exact h) hd
  simpa using this
end Go.Proofs.YtlmpjblmmpddeaaGreat
