/- SavedDrop: the laws' copies, marked and read again. -/
import Derived.Test.YtocjkeieieknbaaDoorTc
set_option linter.unusedVariables false
set_option linter.unusedSimpArgs false
set_option maxRecDepth 100000
namespace Go.Proofs.YtocjkeieieknbaaDoor
open Go.Sh
/-- One new variable, with these texts. -/
def newB (l : List ByteArray) : Nat → Option (List SV) := fun x => if x = 0 then some (cellS l) else none
theorem fend_one {S : St} {s r : SV} {b : Nat} {l : List ByteArray} (hl : Like S.T [(0, b, false)] s r) (hB : S.B b = some (cellS l)) : FEnd S s r [(0, b, false)] 1 (newB l) :=
  ⟨hl, ⟨by simp, by simp, by simp⟩, fun x cs hx => by
    unfold newB at hx
    split at hx
    · rename_i h; subst h; cases hx
      exact .inl ⟨b, cellS l, [], by simp, by simpa using hB, rfl, fun j hj hj' => by simp only [cellS, List.getElem_map]; exact .d _⟩
    · cases hx⟩
set_option maxHeartbeats 1000000 in
theorem f_toStringS (l : List ByteArray) (hl : l.length ≤ 1048576) : FCall Tryd.prog noGl 28 [namesD l] (.os 0 0 l.length) 1 (newB l) := by
  refine FCall.by_ (md := []) Tryd.func28 rfl (by kernel_rfl) (n := 22) Tryd.ntmps28 (by simp) (by decide) rfl ?_
  simp
  refine ⟨by omega, ?_⟩
  refine LoopT.round (fun E S => ∃ (i : Nat), (i ≤ l.length) ∧ E 0 = some (.d (namesD l)) ∧ E 3 = some (.os 3 0 l.length) ∧ E 4 = some (.d (dI i)) ∧ S.B 3 = some (filled sS [.d (dS ⟨#[]⟩)] l i)) (upTo 4 l.length) ⟨0, by simp; simp [filled_none]⟩ ?_
  rintro E S hk ⟨i, hi, h0, h3, h4, hB3⟩
  have hn : S.n = 22 := by first | (simpa using hk.n) | (have hh := hk.n; simp at hh; exact hh)
  have hg : S.gl = noGl := by first | (simpa using hk.gl) | (have hh := hk.gl; simp at hh; exact hh)
  have hmd : S.md = [] := by first | (simpa using hk.md) | (have hh := hk.md; simp at hh; exact hh)
  simp [h0, h3, h4, hB3, hn, hg, hmd]
  have w := wrap64 (n := (i : Int) + 1) (by omega) (by omega)
  have hlen := filled_len (enc := sS) (z := [.d (dS ⟨#[]⟩)]) (fun _ => rfl) rfl l hi
  simp only [Nat.mul_one] at hlen
  refine BrT.dec (fun c => ?_) (fun c => ?_)
  · have hi2 : i < l.length := by omega
    have hnext := filled_next (enc := sS) (z := [.d (dS ⟨#[]⟩)]) (fun _ => rfl) rfl l hi2
    simp only [Nat.mul_one] at hnext
    simp [h0, h3, h4, hB3, hn, hg, hmd, c, hi2, w, hlen]
    refine ⟨by omega, ⟨i + 1, by omega, rfl, ?_⟩, upTo_lt h4 (by simp) hi2⟩
    rw [← hnext]
    simp
  · have hi3 : i = l.length := by omega
    subst hi3
    rw [filled_all, sS_row] at hB3
    simp [h0, h3, h4, hB3, hn, hg, hmd, c]
    refine ⟨_, fend_one (b := 3) (.os (by simp)) ?_⟩
    simp [hB3, cellS]
set_option maxHeartbeats 1000000 in
theorem f_toSaved (l : List ByteArray) (hl : l.length ≤ 1048576) : FCall Tryd.prog noGl 12 [savD l] (.ag [.os 0 0 l.length]) 1 (newB l) := by
  refine FCall.by_ (md := []) Tryd.func12 rfl (by kernel_rfl) (n := 9) Tryd.ntmps12 (by simp) (by decide) rfl ?_
  simp
  refine CallT.l (LCall.ofF (f_toStringS l hl) rfl) rfl ?_
  simp
  refine ⟨_, fend_one (b := 8) (.ag1 (.os (by simp))) ?_⟩
  simp [newB, startS]
/-- A row of texts in a variable of its own, or none at all. -/
def Held (S : St) (X : SV) (l : List ByteArray) : Prop := (l = [] ∧ X = .fl [] 0) ∨ ∃ b, b < S.nx ∧ X = .os b 0 l.length ∧ S.B b = some (cellS l)
set_option maxHeartbeats 1000000 in
theorem l_markSaved (S0 : St) (b n : Nat) (l : List ByteArray) (hb : b < S0.nx) (hB : S0.B b = some (cellS l)) (h1 : 1 ≤ n) (hn : n ≤ 1073741824) (hl : l.length ≤ 1073741824) :
    LCall Tryd.prog 17 [.ag [.os b 0 l.length], .d (dI n)] S0 (.d (dI ((n + l.length : Nat) : Int))) (leftS S0 0 [(b, cellS (marks n l.length))] []) := by
  have ne : ∀ k, S0.nx ≤ k → ¬ b = k := fun k => by omega
  refine LCall.byE (md := []) (leftS_keeps _ _ _ _) (by simp [SV.lt, ltS]) Tryd.func17 rfl (by kernel_rfl) (n := 10) Tryd.ntmps17 (by simp) (by decide) rfl ?_
  simp [hB]
  refine CallT.l (l_markStringS _ b n l (by simp; omega) (by simp [hB, ne]) h1 hn hl) rfl ?_
  simp [hB]
  refine elder_old (bs := [b]) (ts := []) ?_ ?_ ?_ ?_ ?_ ?_ ?_
  · rw [old_adv]
    exact old_left (by first | (simp; done) | (simp; omega)) (by simp) (by simp) (by simp [old_new])
  · simp
  · simp
  · simp [hb, ltS_cellS]
  · simp
  · simp
  · simp
set_option maxHeartbeats 1000000 in
theorem p_heldSaved (n c : Nat) (h1 : 1 ≤ n) (hn : n ≤ 1073741824) (hc : c ≤ 1073741824) : PCall Tryd.prog noGl 18 [savD (marks n c), dI n] (dI ((n + c : Nat) : Int)) := by
  refine PCall.by_ (md := []) Tryd.func18 rfl (by kernel_rfl) (n := 12) Tryd.ntmps18 (by simp) (by decide) rfl ?_
  simp
  repeat refine ⟨DrawT.mk (by kernel_rfl), ?_⟩
  refine CallT.p0 (p_heldStringS n c h1 hn hc) (by first | rfl | (simp; done) | (simp; rfl)) ?_
  simp
  refine BrT.dec (fun e => ?_) (fun e => ?_)
  · omega
  · simp [e]
end Go.Proofs.YtocjkeieieknbaaDoor
