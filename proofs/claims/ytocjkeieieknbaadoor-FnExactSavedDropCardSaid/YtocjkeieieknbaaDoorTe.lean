/- FnExactSavedDrop: the law. -/
import Derived.Test.YtocjkeieieknbaaDoorTd
set_option linter.unusedVariables false
set_option linter.unusedSimpArgs false
set_option maxRecDepth 100000
namespace Go.Proofs.YtocjkeieieknbaaDoor
open Go.Sh
theorem _root_.Go.Sh.FCall.any {P : Program} {f : FuncId} {ds : List D} {r : SV} {K : Nat} {B : Nat → Option (List SV)} {gl : Nat → Option D} (h : FCall P (fun _ => none) f ds r K B) : FCall P gl f ds r K B :=
  ⟨h.1, fun m w vals hm _ hl hv => h.2 m w vals hm (fun _ _ e => by cases e) hl hv⟩
theorem dropS_ok {l : List ByteArray} {k : ByteArray} (h : TextsOk l) : TextsOk (dropS l k) := ⟨by have := dropS_len l k; have := h.1; omega, fun s hs => h.2 s (dropS_mem hs)⟩
@[simp] theorem shift_text (k : Nat) : (SV.shift k ∘ fun s => SV.d (dS s)) = fun s => SV.d (dS s) := funext fun s => by simp
@[simp] theorem mapO_text (B : Nat → Option (List SV)) (n : Nat) (l : List ByteArray) : mapO (frz B (n + 1)) (l.map fun s => SV.d (dS s)) = some (l.map dS) := by
  induction l with
  | nil => rfl
  | cons s r ih => simp [ih]
theorem p_markNil0 (n : Nat) : PCall Tryd.prog noGl 30 [namesD [], dI n] (dI n) := by
  refine PCall.by_ (md := []) Tryd.func30 rfl (by kernel_rfl) (n := 20) Tryd.ntmps30 (by simp) (by decide) rfl ?_
  simp
  refine LoopT.rounds 1 ?_
  simp [RndT_succ]
theorem p_markNil (n : Nat) : PCall Tryd.prog noGl 17 [savD [], dI n] (dI n) := by
  refine PCall.by_ (md := []) Tryd.func17 rfl (by kernel_rfl) (n := 10) Tryd.ntmps17 (by simp) (by decide) rfl ?_
  simp
  repeat refine ⟨DrawT.mk (by kernel_rfl), ?_⟩
  refine CallT.p0 (p_markNil0 n) (by first | rfl | (simp; done) | (simp; rfl)) ?_
  simp
set_option maxHeartbeats 4000000 in
theorem p_lawDrop (l : List ByteArray) (k : ByteArray) (hl : NamesOk l) (hk : k.size ≤ 4611686018427387904) : PCall Tryd.prog sumGl 6 [savD l, dS k] (dB true) := by
  refine PCall.by_ (md := []) Tryd.func6 rfl (by kernel_rfl) (n := 104) Tryd.ntmps6 (by simp) (by decide) rfl ?_
  simp
  refine BrT.dec (fun c => ?_) (fun c => ?_)
  case refine_1 => simp [c]
  simp [c]
  repeat refine ⟨DrawT.mk (by kernel_rfl), ?_⟩
  refine CallT.p0 (p_szSaved l 1048576 hl (by omega) (by omega)) (by first | rfl | (simp; done) | (simp; rfl)) ?_
  simp [c]
  refine BrT.dec (fun c2 => ?_) (fun c2 => ?_)
  case refine_1 => simp [c, c2]
  have hs : TextsOk l := szNames_small (l := l) (r := 1048576) (by omega) (by unfold szSav at c2; split at c2 <;> omega)
  have hs1 := hs.1
  have hds := dropS_ok (k := k) hs
  have hds1 := hds.1
  have hdl := dropS_len l k
  simp [c, c2]
  repeat refine ⟨DrawT.mk (by kernel_rfl), ?_⟩
  refine CallT.p0 (p_toSaved l hs.1) (by first | rfl | (simp; done) | (simp; rfl)) ?_
  simp [c, c2]
  repeat refine ⟨DrawT.mk (by kernel_rfl), ?_⟩
  refine CallT.p0 (p_spDrop l k hs) (by first | rfl | (simp; done) | (simp; rfl)) ?_
  simp [c, c2]
  refine CallT.l (LCall.ofF (f_toSaved l hs.1).any rfl) rfl ?_
  simp [c, c2, newB]
  by_cases hd : dropS l k = []
  · have hd0 : (dropS l k).length = 0 := by rw [hd]; rfl
    refine CallT.l (LCall.ofF (f_imDrop l k hs) (by simp [newB, startS, rowB, hd])) rfl ?_
    simp [c, c2, rowF, rowB, hd]
    refine CallT.l (LCall.ofP (p_eqSaved [] (by simp)).any (by simp [newB, startS, rowB, hd])) rfl ?_
    simp [c, c2]
    refine ⟨DrawT.mk (by kernel_rfl), ?_⟩
    repeat refine ⟨DrawT.mk (by kernel_rfl), ?_⟩
    refine CallT.p0 (p_toSaved l hs.1) (by first | rfl | (simp; done) | (simp; rfl)) ?_
    simp [c, c2]
    refine CallT.l (LCall.ofP (p_eqSaved l (by omega)).any (by simp [newB, startS, rowB, hd])) (by kernel_rfl) ?_
    simp [c, c2]
    refine CallT.l (l_markSaved _ 26 1 l (by simp [startS]) (by simp [newB, startS, rowB, hd, cellS]) (by omega) (by omega) (by omega)) rfl ?_
    have e1 : ¬ (1 + (l.length : Int) < 0) := by omega
    simp [c, c2, e1]
    refine CallT.l (LCall.ofP (p_eqSaved [] (by simp)).any (by simp [newB, startS, rowB, hd])) rfl ?_
    simp [c, c2, e1]
    refine CallT.l (LCall.ofP (p_markNil 1).any (by simp [newB, startS, rowB, hd])) rfl ?_
    simp [c, c2, e1]
    refine CallT.l (LCall.ofP (p_heldSaved 1 0 (by omega) (by omega) (by omega)).any (by simp [newB, startS, rowB, hd, marks])) rfl ?_
    simp [c, c2, e1]
    repeat refine ⟨DrawT.mk (by kernel_rfl), ?_⟩
    refine CallT.p0 (p_toSaved l hs.1) (by first | rfl | (simp; done) | (simp; rfl)) ?_
    simp [c, c2, e1]
    refine CallT.l (LCall.ofF (f_imDrop l k hs) rfl) rfl ?_
    simp [c, c2, e1, rowF, rowB, hd]
    refine CallT.l (LCall.ofP (p_eqSaved [] (by simp)).any (by simp [newB, startS, rowB, hd])) rfl ?_
    simp [c, c2, e1]
    refine CallT.l (LCall.ofP (p_heldSaved 1 0 (by omega) (by omega) (by omega)).any (by simp [newB, startS, rowB, hd, marks])) rfl ?_
    simp [c, c2, e1]
  · refine CallT.l (LCall.ofF (f_imDrop l k hs) (by simp [newB, startS, rowB, hd])) rfl ?_
    simp [c, c2, rowF, rowB, hd]
    refine CallT.l (LCall.ofP (p_eqSaved (dropS l k) (by omega)).any (by simp [newB, startS, rowB, hd])) rfl ?_
    simp [c, c2]
    refine ⟨DrawT.mk (by kernel_rfl), ?_⟩
    repeat refine ⟨DrawT.mk (by kernel_rfl), ?_⟩
    refine CallT.p0 (p_toSaved l hs.1) (by first | rfl | (simp; done) | (simp; rfl)) ?_
    simp [c, c2]
    refine CallT.l (LCall.ofP (p_eqSaved l (by omega)).any (by simp [newB, startS, rowB, hd])) (by kernel_rfl) ?_
    simp [c, c2]
    refine CallT.l (l_markSaved _ 26 1 l (by simp [startS]) (by simp [newB, startS, rowB, hd, cellS]) (by omega) (by omega) (by omega)) rfl ?_
    have e1 : ¬ (1 + (l.length : Int) < 0) := by omega
    have e2 : ¬ (1 + ((dropS l k).length : Int) < 0) := by omega
    simp [c, c2, e1, e2]
    refine CallT.l (LCall.ofP (p_eqSaved (dropS l k) (by omega)).any (by simp [newB, startS, rowB, hd])) rfl ?_
    simp [c, c2, e1, e2]
    refine CallT.l (l_markSaved _ 36 1 (dropS l k) (by simp [startS]) (by simp [newB, startS, rowB, hd, cellS]) (by omega) (by omega) (by omega)) rfl ?_
    simp [c, c2, e1, e2]
    refine CallT.l (LCall.ofP (p_heldSaved 1 (dropS l k).length (by omega) (by omega) (by omega)).any (by simp [newB, startS, rowB, hd])) rfl ?_
    simp [c, c2, e1, e2]
    repeat refine ⟨DrawT.mk (by kernel_rfl), ?_⟩
    refine CallT.p0 (p_toSaved l hs.1) (by first | rfl | (simp; done) | (simp; rfl)) ?_
    simp [c, c2, e1, e2]
    refine CallT.l (LCall.ofF (f_imDrop l k hs) rfl) rfl ?_
    simp [c, c2, e1, e2, rowF, rowB, hd]
    refine CallT.l (LCall.ofP (p_eqSaved (dropS l k) (by omega)).any (by simp [newB, startS, rowB, hd])) rfl ?_
    simp [c, c2, e1, e2]
    refine CallT.l (LCall.ofP (p_heldSaved 1 (dropS l k).length (by omega) (by omega) (by omega)).any (by simp [newB, startS, rowB, hd])) rfl ?_
    simp [c, c2, e1, e2]
end Go.Proofs.YtocjkeieieknbaaDoor
