/- Mm and what follows it, one behind another. -/
import Derived.Test.YtbmoiajdknejnaaGreatMg7
import Derived.Test.YtbmoiajdknejnaaGreatMg6
/- impl: how many. -/
set_option linter.unusedVariables false
set_option linter.unusedSimpArgs false
set_option maxRecDepth 100000
namespace Go.Proofs.YtbmoiajdknejnaaGreat
open Go.Sh
variable {gl : Nat → Option D}
/-- What a call of count leaves. -/
def CountT (d : Doc) (G : ByteArray → Int) (n : Nat) (l : List Sel) : Prop :=
  ∀ (S0 : St) (b c : Nat) (k : List ByteArray), b < S0.nx → c < S0.nx → S0.B c = some (mcM (memoM G k)) →
    LCall Tryz.prog 120 [.ag [.d (opsD d.ops), .d (pcesD d.pces), .mv b, .mv c], .d (selsD l)] S0 (.d (dI (ctL G l 0))) (leftS S0 0 [(c, mcM (memoM G (foldP d n (flatL l) k)))] [])
end Go.Proofs.YtbmoiajdknejnaaGreat

/- impl: how deep, and how many, what a question chooses. -/
set_option linter.unusedVariables false
set_option linter.unusedSimpArgs false
set_option maxRecDepth 100000
namespace Go.Proofs.YtbmoiajdknejnaaGreat
open Go.Sh
variable {gl : Nat → Option D}
set_option maxHeartbeats 2000000 in
theorem l_sumsOf (d : Doc) (S0 : St) : LCall Tryz.prog 115 [.d d.d] S0 (.ag [.d (opsD d.ops), .d (pcesD d.pces), .mv (S0.nx + 3), .mv (S0.nx + 4)]) (leftS S0 7 [(S0.nx + 3, [.mc [] []]), (S0.nx + 4, [.mc [] []])] []) := by
  obtain ⟨ops, ps⟩ := d
  refine LCall.byE (md := []) (leftS_keeps _ _ _ _) (by simp [SV.lt, ltS] <;> omega) Tryz.func115 rfl (by kernel_rfl) (n := 7) Tryz.ntmps115 (by simp) (by decide) rfl ?_
  simp [Doc.cells]
  refine elder_old (bs := []) (ts := []) (by ((repeat first | rw [old_adv] | rw [old_setIn (by first | (simp; done) | fail)] | rw [old_set (by first | omega | (simp; done) | (simp; omega))] | rw [old_new (by first | omega | (simp; done) | (simp; omega))] | rw [old_tipIn (by first | (simp; done) | fail)] | rw [old_tip (by first | omega | (simp; done) | (simp; omega))] | refine old_left (by first | omega | (simp; done) | (simp; omega)) (by first | omega | (simp; done) | (simp; omega)) (by first | omega | (simp; done) | (simp; omega)) ?_); (first | exact ho | simp))) ?_ ?_ ?_ ?_ ?_ ?_
  · simp
  · simp
  · simp [ltS, SV.lt]
  · simp
  · simp
  · simp
/-- How deep what a question chooses goes. -/
def deepB (d : Doc) (G : ByteArray → Int) (o : Option Opn) : Int := match o with
  | some o => if openB d = true then dpL G o.sels 0 else 0
  | none => 0
theorem opn_mem {ops : List Opn} {s : ByteArray} {o : Opn} (h : opnF ops s = some o) : o ∈ ops := by
  unfold opnF at h
  split at h
  · split at h
    · exact List.mem_of_getElem? h
    · cases h
  · exact List.mem_of_find?_eq_some h
set_option maxHeartbeats 4000000 in
theorem p_imSelDeep (d : Doc) (hd : DocOk d) (s : ByteArray) (G : ByteArray → Int) (hG : openB d = true → ∀ x, G x = dpL G (selsOf d.pces x) 0) : PCall Tryz.prog gl 38 [d.d, dS s] (dI (deepB d G (opnF d.ops s))) := by
  obtain ⟨z, hz⟩ : ∃ z, deepB d G (opnF d.ops s) = z := ⟨_, rfl⟩
  rw [hz]
  have hO := p_opOf (gl := gl) d s hd.ops.1
  have hD := p_docOpen (gl := gl) d hd
  have hmem := fun o => opn_mem (ops := d.ops) (s := s) (o := o)
  have hL := fun (ho : openB d = true) (o : Opn) (hm : o ∈ d.ops) =>
    have hb : docB d = true := by unfold openB at ho; rw [Bool.and_eq_true] at ho; exact ho.1
    l_deep d hd ho hb G (hG ho) ((allN d).length + 1) o.sels (hd.ops.2 o hm).sels.1 (hd.ops.2 o hm).sels.2 (top_f (opn_top ((doc_form hb).o o hm))) fun y _ => Nat.lt_succ_of_le (rank_le d y)
  generalize opnF d.ops s = oo at hO hmem hz
  have hS := l_sumsOf d
  obtain ⟨ops, ps⟩ := d
  simp only at hL hmem hS
  cases oo with
  | none =>
    have hz : (0 : Int) = z := hz
    simp only [Option.getD_none, Option.isSome_none] at hO
    refine PCall.by_ (md := []) Tryz.func38 rfl (by kernel_rfl) (n := 25) Tryz.ntmps38 (by simp) (by decide) rfl ?_
    simp [Doc.cells, opn_clen]
    repeat refine ⟨DrawT.mk (by kernel_rfl), ?_⟩
    refine CallT.p0 (hO) (by first | rfl | (simp; done) | (simp [Doc.cells, opn_clen]; done)) (by first | rfl | (simp; done) | (simp; rfl) | (simp [Doc.cells, opn_clen]; done)) ?_
    simp [Doc.cells, opn_clen,  ← hz]
  | some o =>
    have hz : (if openB ⟨ops, ps⟩ = true then dpL G o.sels 0 else 0) = z := hz
    have hmem := hmem o rfl
    have hL := fun ho => hL ho o hmem
    simp only [Option.getD_some, Option.isSome_some] at hO
    obtain ⟨oc, on, ov, os⟩ := o
    simp only at hz hL
    generalize openB ⟨ops, ps⟩ = zb at hz hL hD
    refine PCall.by_ (md := []) Tryz.func38 rfl (by kernel_rfl) (n := 25) Tryz.ntmps38 (by simp) (by decide) rfl ?_
    simp [Doc.cells, Opn.cells]
    repeat refine ⟨DrawT.mk (by kernel_rfl), ?_⟩
    refine CallT.p0 (hO) (by first | rfl | (simp; done) | (simp [Doc.cells, Opn.cells]; done)) (by first | rfl | (simp; done) | (simp; rfl) | (simp [Doc.cells, Opn.cells]; done)) ?_
    simp [Doc.cells, Opn.cells]
    repeat refine ⟨DrawT.mk (by kernel_rfl), ?_⟩
    refine CallT.p0 (hD) (by first | rfl | (simp; done) | (simp [Doc.cells, Opn.cells]; done)) (by first | rfl | (simp; done) | (simp; rfl) | (simp [Doc.cells, Opn.cells]; done)) ?_
    simp [Doc.cells, Opn.cells]
    refine BrT.mk (fun c1 => ?_) (fun c1 => ?_)
    case refine_2 => (rw [if_neg (by rw [c1]; decide)] at hz; simp [Doc.cells, Opn.cells, c1, hz])
    rw [if_pos c1] at hz
    have hL := hL c1
    simp [Doc.cells, Opn.cells, c1]
    refine ⟨DrawT.mk (by kernel_rfl), ?_⟩
    have hS2 : ∀ S1 : St, S1.nx = 24 → LCall Tryz.prog 115 [.ag [.d (opsD ops), .d (pcesD ps)]] S1 (.ag [.d (opsD ops), .d (pcesD ps), .mv 27, .mv 28]) (leftS S1 7 [(27, [.mc [] []]), (28, [.mc [] []])] []) := fun S1 e => by
      have h := hS S1
      rw [e] at h
      exact LCall.as h (by repeat' (first | exact trivial | exact Or.inl rfl | exact Or.inr ⟨_, by first | (simp; done) | (simp; rfl), rfl⟩ | refine And.intro ?_ ?_))
    refine CallT.own [((3, 5), 1)] (by kernel_rfl) (by kernel_rfl) (by simp [Eh.e]) (OwnK.left (fun S1 e _ => hS2 S1 (e.trans (by simp))) (by simp [Ar.a]) (by simp [Ar.a])) ?_
    simp [Doc.cells, Opn.cells, c1]
    refine CallT.la (hL _ 27 28 [] ?_ ?_ ?_) (by repeat' (first | exact trivial | exact Or.inl rfl | exact Or.inr ⟨_, by first | (simp; done) | (simp; rfl), rfl⟩ | refine And.intro ?_ ?_)) (by kernel_rfl) ?_
    · simp
    · simp
    · simp [leftF]
      exact ⟨rfl, rfl⟩
    simp [Doc.cells, Opn.cells, c1, hz]
/-- How many a question chooses. -/
def countB (d : Doc) (G : ByteArray → Int) (o : Option Opn) : Int := match o with
  | some o => if openB d = true then ctL G o.sels 0 else 0
  | none => 0
end Go.Proofs.YtbmoiajdknejnaaGreat

/- spec: SelDeep. -/
set_option linter.unusedVariables false
set_option linter.unusedSimpArgs false
set_option maxRecDepth 100000
namespace Go.Proofs.YtbmoiajdknejnaaGreat
open Go.Sh
variable {gl : Nat → Option D}
set_option maxHeartbeats 4000000 in
theorem p_spSelDeep (d : Doc) (hd : DocOk d) (hs : d.ops.length ≤ 1048576 ∧ d.pces.length ≤ 1048576) (hDk : PCall Tryz.prog gl 199 [d.d] (dB (docB d))) (s : ByteArray) (G : ByteArray → Int) (hG : openB d = true → ∀ x, G x = dpL G (selsOf d.pces x) 0) : PCall Tryz.prog gl 36 [d.d, dS s] (dI (deepB d G (opnF d.ops s))) := by
  obtain ⟨z, hz⟩ : ∃ z, deepB d G (opnF d.ops s) = z := ⟨_, rfl⟩
  rw [hz]
  have hO := p_l6Op (gl := gl) d s hd.ops.1
  have hD := p_l10Open (gl := gl) d hd hs hDk
  have hL := fun (ho : openB d = true) (o : Opn) (hm : o ∈ d.ops) =>
    have hb : docB d = true := by unfold openB at ho; rw [Bool.and_eq_true] at ho; exact ho.1
    p_l10Deep (gl := gl) d hd ho hb G (hG ho) ((allN d).length + 1) o.sels (hd.ops.2 o hm).sels.1 (hd.ops.2 o hm).sels.2 (top_f (opn_top ((doc_form hb).o o hm))) (has_op ho hm) fun y _ => Nat.lt_succ_of_le (rank_le d y)
  unfold DeepQ at hL
  have hcase := opnZ_case d.ops s
  obtain ⟨ops, ps⟩ := d
  simp only at hL hcase hO hs
  have hlen := opn_len ops
  rcases hcase with ⟨e1, e2⟩ | ⟨j, hj, e1, e2⟩
  · rw [show (Doc.mk ops ps).ops = ops from rfl, e1] at hz
    have hz : (0 : Int) = z := hz
    rw [e2] at hO
    generalize openB ⟨ops, ps⟩ = zb at hD
    refine PCall.by_ (md := []) Tryz.func36 rfl (by kernel_rfl) (n := 24) Tryz.ntmps36 (by simp) (by decide) rfl ?_
    simp [Doc.cells]
    repeat refine ⟨DrawT.mk (by kernel_rfl), ?_⟩
    refine CallT.p0 (hO) (by first | rfl | (simp; done) | (simp [Doc.cells]; done)) (by first | rfl | (simp; done) | (simp; rfl) | (simp [Doc.cells]; done)) ?_
    simp [Doc.cells]
    repeat refine ⟨DrawT.mk (by kernel_rfl), ?_⟩
    refine CallT.p0 (hD) (by first | rfl | (simp; done) | (simp [Doc.cells]; done)) (by first | rfl | (simp; done) | (simp; rfl) | (simp [Doc.cells]; done)) ?_
    simp [Doc.cells]
    refine BrT.mk (fun c1 => ?_) (fun c1 => ?_)
    · simp [Doc.cells, c1, ← hz]
    · simp [Doc.cells, c1, ← hz]
  · rw [show (Doc.mk ops ps).ops = ops from rfl, e1] at hz
    have hz : (if openB ⟨ops, ps⟩ = true then dpL G ops[j].sels 0 else 0) = z := hz
    have hL := fun ho => hL ho _ (List.getElem_mem hj)
    rw [e2] at hO
    have hat := opn_at ops hj
    have hfit : j * 4 + 4 ≤ ops.length * 4 := by omega
    generalize openB ⟨ops, ps⟩ = zb at hD hL hz
    generalize ops[j] = o at hat hz hL
    obtain ⟨oc, on, ov, os⟩ := o
    simp only at hz hL
    simp only [Opn.cells, List.cons_append, List.nil_append] at hat
    have hneg : ¬ ((j : Int) < 0) := by omega
    refine PCall.by_ (md := []) Tryz.func36 rfl (by kernel_rfl) (n := 24) Tryz.ntmps36 (by simp) (by decide) rfl ?_
    have hat_3 := row_get hat 3 (by decide) rfl
    have hat_3'' := (List.getElem?_eq_some_iff.1 hat_3).2
    have hat_3' : j * 4 + 3 < _ := Nat.lt_of_lt_of_le (by omega) hfit
    simp [hat_3, hat_3', hat_3'', Doc.cells, hj, hlen, hfit, hneg]
    repeat refine ⟨DrawT.mk (by kernel_rfl), ?_⟩
    refine CallT.p0 (hO) (by first | rfl | (simp; done) | (simp [hat_3, hat_3', hat_3'', Doc.cells, hj, hlen, hfit, hneg]; done)) (by first | rfl | (simp; done) | (simp; rfl) | (simp [hat_3, hat_3', hat_3'', Doc.cells, hj, hlen, hfit, hneg]; done)) ?_
    simp [hat_3, hat_3', hat_3'', Doc.cells, hj, hlen, hfit, hneg]
    repeat refine ⟨DrawT.mk (by kernel_rfl), ?_⟩
    refine CallT.p0 (hD) (by first | rfl | (simp; done) | (simp [hat_3, hat_3', hat_3'', Doc.cells, hj, hlen, hfit, hneg]; done)) (by first | rfl | (simp; done) | (simp; rfl) | (simp [hat_3, hat_3', hat_3'', Doc.cells, hj, hlen, hfit, hneg]; done)) ?_
    simp [hat_3, hat_3', hat_3'', Doc.cells, hj, hlen, hfit, hneg]
    refine BrT.mk (fun c1 => ?_) (fun c1 => ?_)
    case refine_2 => (rw [if_neg (by rw [c1]; decide)] at hz; simp [hat_3, hat_3', hat_3'', Doc.cells, hj, hlen, hfit, hneg, c1, ← hz])
    rw [if_pos c1] at hz
    simp [hat_3, hat_3', hat_3'', Doc.cells, hj, hlen, hfit, hneg, c1]
    refine ⟨DrawT.mk (by kernel_rfl), ?_⟩
    repeat refine ⟨DrawT.mk (by kernel_rfl), ?_⟩
    refine CallT.p0 (hL c1) (by first | rfl | (simp; done) | (simp [hat_3, hat_3', hat_3'', Doc.cells, hj, hlen, hfit, hneg, c1]; done)) (by first | rfl | (simp; done) | (simp; rfl) | (simp [hat_3, hat_3', hat_3'', Doc.cells, hj, hlen, hfit, hneg, c1]; done)) ?_
    simp [hat_3, hat_3', hat_3'', Doc.cells, hj, hlen, hfit, hneg, c1]
    simp [hat_3, hat_3', hat_3'', Doc.cells, hj, hlen, hfit, hneg, c1, hz]
end Go.Proofs.YtbmoiajdknejnaaGreat

/- FnExactSelDeep: the law. -/
set_option linter.unusedVariables false
set_option linter.unusedSimpArgs false
set_option maxRecDepth 100000
namespace Go.Proofs.YtbmoiajdknejnaaGreat
open Go.Sh
variable {gl : Nat → Option D}
set_option maxHeartbeats 2000000 in
theorem p_lawSelDeep (d : Doc) (hd : DocOk d) (s : ByteArray) : PCall Tryz.prog gl 10 [d.d, dS s] (dB true) := by
  have hsz := p_szDoc (gl := gl) d hd 1048576 (by omega) (by omega)
  have hsm := fun h => szDc_small d 1048576 (by omega) h (by omega)
  have hdp := fun h => szDc_deep d 1048576 (by omega) h (by omega)
  have hT := fun h => p_toDoc (gl := gl) d (hsm h)
  have hE := p_eqDoc (gl := gl) d hd
  have hG : ∃ G : ByteArray → Int, openB d = true → ∀ x, G x = dpL G (selsOf d.pces x) 0 := by
    by_cases ho : openB d = true
    · obtain ⟨G, hG⟩ := deep_ex ho
      exact ⟨G, fun _ => hG⟩
    · exact ⟨fun _ => 0, fun h => absurd h ho⟩
  obtain ⟨G, hG⟩ := hG
  have hI := p_imSelDeep (gl := gl) d hd s G hG
  have hSp := fun h => p_spSelDeep (gl := gl) d hd ⟨(hsm h).ops.1, (hsm h).pces.1⟩ (p_spDocOk (gl := gl) d (hsm h) (hdp h)) s G hG
  generalize deepB d G (opnF d.ops s) = z at hI hSp
  generalize szDc d 1048576 = sz at hsz hsm hdp hT hSp
  obtain ⟨ops, ps⟩ := d
  refine PCall.by_ (md := []) Tryz.func10 rfl (by kernel_rfl) (n := 34) Tryz.ntmps10 (by simp) (by decide) rfl ?_
  simp [Doc.cells]
  refine BrT.dec (fun c0 => ?_) (fun c0 => ?_)
  case refine_1 => simp [Doc.cells, c0]
  simp [Doc.cells, c0]
  repeat refine ⟨DrawT.mk (by kernel_rfl), ?_⟩
  refine CallT.p0 (hsz) (by first | rfl | (simp; done) | (simp [Doc.cells, c0]; done)) (by first | rfl | (simp; done) | (simp; rfl) | (simp [Doc.cells, c0]; done)) ?_
  simp [Doc.cells, c0]
  refine BrT.dec (fun c1 => ?_) (fun c1 => ?_)
  case refine_1 => simp [Doc.cells, c0, c1]
  have h0 : 0 ≤ sz := Int.not_lt.1 c1
  simp [Doc.cells, c0, c1]
  repeat refine ⟨DrawT.mk (by kernel_rfl), ?_⟩
  refine CallT.p0 (hT h0) (by first | rfl | (simp; done) | (simp [Doc.cells, c0, c1]; done)) (by first | rfl | (simp; done) | (simp; rfl) | (simp [Doc.cells, c0, c1]; done)) ?_
  simp [Doc.cells, c0, c1]
  repeat refine ⟨DrawT.mk (by kernel_rfl), ?_⟩
  refine CallT.p0 (hSp h0) (by first | rfl | (simp; done) | (simp [Doc.cells, c0, c1]; done)) (by first | rfl | (simp; done) | (simp; rfl) | (simp [Doc.cells, c0, c1]; done)) ?_
  simp [Doc.cells, c0, c1]
  repeat refine ⟨DrawT.mk (by kernel_rfl), ?_⟩
  refine CallT.p0 (hT h0) (by first | rfl | (simp; done) | (simp [Doc.cells, c0, c1]; done)) (by first | rfl | (simp; done) | (simp; rfl) | (simp [Doc.cells, c0, c1]; done)) ?_
  simp [Doc.cells, c0, c1]
  repeat refine ⟨DrawT.mk (by kernel_rfl), ?_⟩
  refine CallT.p0 (hI) (by first | rfl | (simp; done) | (simp [Doc.cells, c0, c1]; done)) (by first | rfl | (simp; done) | (simp; rfl) | (simp [Doc.cells, c0, c1]; done)) ?_
  simp [Doc.cells, c0, c1]
  repeat refine ⟨DrawT.mk (by kernel_rfl), ?_⟩
  refine CallT.p0 (hT h0) (by first | rfl | (simp; done) | (simp [Doc.cells, c0, c1]; done)) (by first | rfl | (simp; done) | (simp; rfl) | (simp [Doc.cells, c0, c1]; done)) ?_
  simp [Doc.cells, c0, c1]
  repeat refine ⟨DrawT.mk (by kernel_rfl), ?_⟩
  refine CallT.p0 (hE) (by first | rfl | (simp; done) | (simp [Doc.cells, c0, c1]; done)) (by first | rfl | (simp; done) | (simp; rfl) | (simp [Doc.cells, c0, c1]; done)) ?_
  simp [Doc.cells, c0, c1]
end Go.Proofs.YtbmoiajdknejnaaGreat
