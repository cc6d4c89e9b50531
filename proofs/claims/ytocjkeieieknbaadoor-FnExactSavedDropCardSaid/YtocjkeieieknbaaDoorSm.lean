/- FnExactSavedGet: the law. -/
import Derived.Test.YtocjkeieieknbaaDoorSj
set_option linter.unusedVariables false
set_option linter.unusedSimpArgs false
set_option maxRecDepth 100000
namespace Go.Proofs.YtocjkeieieknbaaDoor
open Go.Sh
abbrev savD (l : List ByteArray) : D := .agg [namesD l]
def docSum (s : ByteArray) : ByteArray := sumS (sumV s)
theorem p_spSum (s : ByteArray) (hs : s.size ≤ 70368744177664) : PCall Tryd.prog noGl 7 [dS s] (dS (docSum s)) := p_specDocSum s hs
theorem p_imSum (s : ByteArray) (hs : s.size ≤ 70368744177664) : PCall Tryd.prog sumGl 8 [dS s] (dS (docSum s)) := p_implDocSum s hs
theorem szGo_le : ∀ (l : List ByteArray) (r : Int), -1 ≤ r → -1 ≤ szGo l r ∧ szGo l r ≤ r
  | [], r, h => ⟨h, Int.le_refl _⟩
  | s :: t, r, h => by
    simp only [szGo]
    split
    · omega
    · have := szGo_le t (r - s.size) (by omega)
      omega
theorem szGo_small : ∀ (l : List ByteArray) (r : Int), r ≤ 1048576 → 0 ≤ szGo l r → ∀ s ∈ l, s.size ≤ 1048576
  | [], r, _, _, s, hs => by simp at hs
  | x :: t, r, hr, h, s, hs => by
    simp only [szGo] at h
    split at h
    · omega
    · rename_i hx
      have := szGo_small t (r - x.size) (by omega) h
      rcases List.mem_cons.1 hs with rfl | hs
      · have := (szGo_le t (r - s.size) (by omega)).2; omega
      · exact this s hs
theorem szNames_small {l : List ByteArray} {r : Int} (hr : r ≤ 1048576) (h : 0 ≤ szNames l r) : l.length ≤ 1048576 ∧ ∀ s ∈ l, s.size ≤ 1048576 := by
  unfold szNames at h
  split at h
  · omega
  · rename_i hx
    have := (szGo_le l (r - l.length) (by omega)).2
    exact ⟨by omega, szGo_small l _ (by omega) h⟩
def szSav (l : List ByteArray) (r : Int) : Int := if szNames l r < 0 then -1 else szNames l r
theorem p_szSaved (l : List ByteArray) (r : Int) (hl : NamesOk l) (h0 : 0 ≤ r) (hb : r ≤ 4611686018427387904) : PCall Tryd.prog noGl 10 [savD l, dI r] (dI (szSav l r)) := by
  refine PCall.by_ (md := []) Tryd.func10 rfl (by kernel_rfl) (n := 12) Tryd.ntmps10 (by simp) (by decide) rfl ?_
  simp
  repeat refine ⟨DrawT.mk (by kernel_rfl), ?_⟩
  refine CallT.p0 (p_szStringS l r hl h0 hb) (by first | rfl | (simp; done) | (simp; rfl)) ?_
  simp
  refine BrT.dec (fun c => ?_) (fun c => ?_)
  · simp [c, szSav]
  · simp [c, szSav]
theorem p_toSaved (l : List ByteArray) (hl : l.length ≤ 1048576) : PCall Tryd.prog noGl 12 [savD l] (savD l) := by
  refine PCall.by_ (md := []) Tryd.func12 rfl (by kernel_rfl) (n := 9) Tryd.ntmps12 (by simp) (by decide) rfl ?_
  simp
  repeat refine ⟨DrawT.mk (by kernel_rfl), ?_⟩
  refine CallT.p0 (p_toStringS l hl) (by first | rfl | (simp; done) | (simp; rfl)) ?_
  simp
theorem p_eqSaved (l : List ByteArray) (hl : l.length ≤ 4611686018427387904) : PCall Tryd.prog noGl 14 [savD l, savD l] (dB true) := by
  refine PCall.by_ (md := []) Tryd.func14 rfl (by kernel_rfl) (n := 11) Tryd.ntmps14 (by simp) (by decide) rfl ?_
  simp
  repeat refine ⟨DrawT.mk (by kernel_rfl), ?_⟩
  refine CallT.p0 (p_eqStringS l hl) (by first | rfl | (simp; done) | (simp; rfl)) ?_
  simp
def getS : List ByteArray → ByteArray → ByteArray × Bool
  | [], _ => (⟨#[]⟩, false)
  | t :: r, k => if docSum t = k then (t, true) else getS r k
abbrev TextsOk (l : List ByteArray) : Prop := l.length ≤ 1048576 ∧ ∀ s ∈ l, s.size ≤ 1048576
set_option maxHeartbeats 1000000 in
theorem p_spGet (l : List ByteArray) (k : ByteArray) (hl : TextsOk l) : PCall Tryd.prog noGl 11 [savD l, dS k] (.tup [dS (getS l k).1, dB (getS l k).2]) := by
  obtain ⟨hlen, hsz⟩ := hl
  refine PCall.by_ (md := []) Tryd.func11 rfl (by kernel_rfl) (n := 27) Tryd.ntmps11 (by simp) (by decide) rfl ?_
  simp
  refine LoopT.round (fun E S => ∃ (i : Nat), (i ≤ l.length) ∧ E 1 = some (.d (dS k)) ∧ E 2 = some (.op 0 0) ∧ E 6 = some (.d (dI i)) ∧ S.B 0 = some ([.d (namesD l)]) ∧ (getS (l.drop i) k = getS l k)) (upTo 6 l.length) ⟨0, by simp⟩ ?_
  rintro E S hk ⟨i, hi, h1, h2, h6, hB0, hp⟩
  have hn : S.n = 27 := by first | (simpa using hk.n) | (have hh := hk.n; simp at hh; exact hh)
  have hg : S.gl = noGl := by first | (simpa using hk.gl) | (have hh := hk.gl; simp at hh; exact hh)
  have hmd : S.md = [] := by first | (simpa using hk.md) | (have hh := hk.md; simp at hh; exact hh)
  simp [h1, h2, h6, hB0, hn, hg, hmd]
  have w := wrap64 (n := (i : Int) + 1) (by omega) (by omega)
  refine BrT.dec (fun c => ?_) (fun c => ?_)
  · have hi2 : i < l.length := by omega
    rw [List.drop_eq_getElem_cons hi2, getS] at hp
    simp [h1, h2, h6, hB0, hn, hg, hmd, c, hi2]
    repeat refine ⟨DrawT.mk (by kernel_rfl), ?_⟩
    refine CallT.p0 (p_spSum l[i] (by have := hsz _ (List.getElem_mem hi2); omega)) (by first | rfl | (simp; done) | (simp; rfl)) ?_
    simp [h1, h2, h6, hB0, hn, hg, hmd, c]
    refine BrT.dec (fun e => ?_) (fun e => ?_)
    · rw [if_pos e] at hp
      simp [h1, h2, h6, hB0, hn, hg, hmd, c, e, hi2, ← hp]
    · rw [if_neg e] at hp
      simp [h1, h2, h6, hB0, hn, hg, hmd, c, e, w]
      exact ⟨⟨i + 1, by omega, rfl, hp⟩, upTo_lt h6 (by simp) hi2⟩
  · rw [List.drop_eq_nil_of_le (by omega), getS] at hp
    simp [h1, h2, h6, hB0, hn, hg, hmd, c, ← hp]
set_option maxHeartbeats 1000000 in
theorem p_imGet (l : List ByteArray) (k : ByteArray) (hl : TextsOk l) : PCall Tryd.prog sumGl 13 [savD l, dS k] (.tup [dS (getS l k).1, dB (getS l k).2]) := by
  obtain ⟨hlen, hsz⟩ := hl
  refine PCall.by_ (md := []) Tryd.func13 rfl (by kernel_rfl) (n := 21) Tryd.ntmps13 (by simp) (by decide) rfl ?_
  simp
  refine LoopT.round (fun E S => ∃ (i : Nat), (i ≤ l.length) ∧ E 1 = some (.d (dS k)) ∧ E 9 = some (.d (namesD l)) ∧ E 10 = some (.d (dI l.length)) ∧ E 11 = some (.d (dI i)) ∧ (getS (l.drop i) k = getS l k)) (upTo 11 l.length) ⟨0, by simp⟩ ?_
  rintro E S hk ⟨i, hi, h1, h9, h10, h11, hp⟩
  have hn : S.n = 21 := by first | (simpa using hk.n) | (have hh := hk.n; simp at hh; exact hh)
  have hg : S.gl = sumGl := by first | (simpa using hk.gl) | (have hh := hk.gl; simp at hh; exact hh)
  have hmd : S.md = [] := by first | (simpa using hk.md) | (have hh := hk.md; simp at hh; exact hh)
  simp [h1, h9, h10, h11, hn, hg, hmd]
  have w := wrap64 (n := (i : Int) + 1) (by omega) (by omega)
  refine BrT.dec (fun c => ?_) (fun c => ?_)
  · have hi2 : i < l.length := by omega
    rw [List.drop_eq_getElem_cons hi2, getS] at hp
    simp [h1, h9, h10, h11, hn, hg, hmd, c, hi2]
    refine CallT.p (p_imSum l[i] (by have := hsz _ (List.getElem_mem hi2); omega)) (by simp [h1, h9, h10, h11, hn, hg, hmd, c]) rfl ?_
    simp [h1, h9, h10, h11, hn, hg, hmd, c]
    refine BrT.dec (fun e => ?_) (fun e => ?_)
    · rw [if_pos e] at hp
      simp [h1, h9, h10, h11, hn, hg, hmd, c, e, hi2, ← hp]
    · rw [if_neg e] at hp
      simp [h1, h9, h10, h11, hn, hg, hmd, c, e, w]
      exact ⟨⟨i + 1, by omega, rfl, hp⟩, upTo_lt h11 (by simp) hi2⟩
  · rw [List.drop_eq_nil_of_le (by omega), getS] at hp
    simp [h1, h9, h10, h11, hn, hg, hmd, c, ← hp]
theorem p_lawGet (l : List ByteArray) (k : ByteArray) (hl : NamesOk l) (hk : k.size ≤ 4611686018427387904) : PCall Tryd.prog sumGl 5 [savD l, dS k] (dB true) := by
  refine PCall.by_ (md := []) Tryd.func5 rfl (by kernel_rfl) (n := 47) Tryd.ntmps5 (by simp) (by decide) rfl ?_
  simp
  refine BrT.dec (fun c => ?_) (fun c => ?_)
  case refine_1 => simp [c]
  simp [c]
  repeat refine ⟨DrawT.mk (by kernel_rfl), ?_⟩
  refine CallT.p0 (p_szSaved l 1048576 hl (by omega) (by omega)) (by first | rfl | (simp; done) | (simp; rfl)) ?_
  simp [c]
  refine BrT.dec (fun c2 => ?_) (fun c2 => ?_)
  case refine_1 => simp [c, c2]
  have hs : TextsOk l := szNames_small (l := l) (r := 1048576) (by omega) (by unfold szSav at c2; split at c2 <;> omega)
  simp [c, c2]
  repeat refine ⟨DrawT.mk (by kernel_rfl), ?_⟩
  refine CallT.p0 (p_toSaved l hs.1) (by first | rfl | (simp; done) | (simp; rfl)) ?_
  simp [c, c2]
  repeat refine ⟨DrawT.mk (by kernel_rfl), ?_⟩
  refine CallT.p0 (p_spGet l k hs) (by first | rfl | (simp; done) | (simp; rfl)) ?_
  simp [c, c2]
  repeat refine ⟨DrawT.mk (by kernel_rfl), ?_⟩
  refine CallT.p0 (p_toSaved l hs.1) (by first | rfl | (simp; done) | (simp; rfl)) ?_
  simp [c, c2]
  refine CallT.p (p_imGet l k hs) (by simp) rfl ?_
  simp [c, c2]
  repeat refine ⟨DrawT.mk (by kernel_rfl), ?_⟩
  refine CallT.p0 (p_toSaved l hs.1) (by first | rfl | (simp; done) | (simp; rfl)) ?_
  simp [c, c2]
  repeat refine ⟨DrawT.mk (by kernel_rfl), ?_⟩
  refine CallT.p0 (p_eqSaved l (by have := hs.1; omega)) (by first | rfl | (simp; done) | (simp; rfl)) ?_
  simp [c, c2]
end Go.Proofs.YtocjkeieieknbaaDoor
