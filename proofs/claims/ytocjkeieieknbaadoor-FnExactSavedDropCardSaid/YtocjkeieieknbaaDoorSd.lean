/- A block of a sum, as the program adds it. -/
import Derived.Test.YtocjkeieieknbaaDoorSc
set_option linter.unusedVariables false
set_option linter.unusedSimpArgs false
set_option maxRecDepth 100000
namespace Go.Proofs.YtocjkeieieknbaaDoor
open Go.Sh
theorem p_rotl' (x : W) (m : Int) (n : Nat) (h : n ≤ 32) (hm : rotN m = ((32 - n : Nat) : Int)) : PCall Tryd.prog noGl 40 [dW x, dI m] (dW (turn x n)) := p_rotl x m n h hm
abbrev kD : D := .pp (kL.map dW) 0
def sumGl : Nat → Option D := fun g => if g = 0 then some kD else none
/-- The first words are there, the others are nought. -/
def wrow (ws : List W) : List SV := ws.map (fun w => SV.d (dW w)) ++ List.replicate (64 - ws.length) (.d (.v (.int .u32 0)))
theorem wrow_len {ws : List W} (h : ws.length ≤ 64) : (wrow ws).length = 64 := by simp [wrow]; omega
theorem wrow_at {ws : List W} {i : Nat} (h : i < ws.length) : (wrow ws)[i]? = some (.d (dW (wAt ws i))) := by
  unfold wrow
  rw [List.getElem?_append_left (by simpa using h), List.getElem?_map, wAt_at h]; rfl
theorem wrow_set {ws : List W} {w : W} (h : ws.length < 64) : (wrow ws).take ws.length ++ SV.d (dW w) :: (wrow ws).drop (ws.length + 1) = wrow (ws ++ [w]) := by
  have e : 64 - ws.length = (64 - (ws.length + 1)) + 1 := by omega
  have l : (ws.map (fun w => SV.d (dW w))).length = ws.length := by simp
  unfold wrow
  rw [List.take_append, List.drop_append, l, Nat.sub_self, List.take_zero, List.append_nil, List.take_of_length_le (by simp), List.drop_eq_nil_of_le (by simp), List.nil_append]
  rw [e, show ws.length + 1 - ws.length = 1 by omega, List.replicate_succ, List.drop_one, List.tail_cons]
  simp
theorem wrow_set' {d : List UInt8} {i : Nat} {w : W} (h : i < 64) (hw : w = if i < 16 then w4 d i else ext (sch d i)) : (wrow (sch d i)).take i ++ SV.d (dW w) :: (wrow (sch d i)).drop (i + 1) = wrow (sch d (i + 1)) := by
  have := wrow_set (ws := sch d i) (w := w) (by simpa using h)
  rw [sch_len] at this
  rw [this, sch, ← hw]
set_option maxHeartbeats 8000000 in
theorem l_block (S0 : St) (b : Nat) (v : V) (d : List UInt8) (rest : List SV) (hB : S0.B b = some (v.ss ++ rest)) (hgl : S0.gl = sumGl) (hb : b < S0.nx) (hrest : ltS S0.nx rest = true) (hd : d.length = 64) :
    LCall Tryd.prog 34 [.op b 0, .d (yD d)] S0 (.tu []) (leftS S0 0 [(b, (blk v d).ss ++ rest)] []) := by
  have ne : ∀ k, S0.nx ≤ k → ¬ b = k := fun k => by omega
  have ne2 : ∀ k, S0.nx ≤ k → ¬ k = b := fun k => by omega
  refine LCall.byE (md := []) (leftS_keeps _ _ _ _) (by simp [SV.lt, ltS]) Tryd.func34 rfl (by kernel_rfl) (n := 215) Tryd.ntmps34 (by simp) (by decide) rfl ?_
  simp [ne, ne2, hgl, hB]
  refine LoopT.round (fun E S => ∃ (i : Nat), (i ≤ 16) ∧ (S0.nx < S.nx) ∧ E 0 = some (.op b 0) ∧ E 1 = some (.d (yD d)) ∧ E 4 = some (.op S0.nx 0) ∧ E 19 = some (.d (dI i)) ∧ E 1048576 = some (.d (kD)) ∧ S.B b = some (v.ss ++ rest) ∧ (S.B S0.nx = some (wrow (sch d i))) ∧ (Old S0 [] [] S)) (upTo 19 16) ⟨0, by simp [ne, ne2, hgl, sch, hB, old_new, sumGl]; exact ⟨by omega, rfl⟩⟩ ?_
  rintro E S hk ⟨i, hi, hx, h0, h1, h4, h19, h1048576, hBb, hq, ho⟩
  have hn : S.n = 215 := by first | (simpa using hk.n) | (have hh := hk.n; simp [ne, ne2, hgl] at hh; exact hh)
  have hg : S.gl = sumGl := by first | (simpa using hk.gl) | (have hh := hk.gl; simp [ne, ne2, hgl] at hh; exact hh)
  have hmd : S.md = [] := by first | (simpa using hk.md) | (have hh := hk.md; simp [ne, ne2, hgl] at hh; exact hh)
  simp [ne, ne2, hgl, h0, h1, h4, h19, h1048576, hBb, hn, hg, hmd]
  have w1 : IntKind.i64.wrap (4 * (i : Int)) = 4 * (i : Int) := wrap64 (by omega) (by omega)
  have w2 : ∀ k : Int, 0 ≤ k → k ≤ 3 → IntKind.i64.wrap (4 * (i : Int) + k) = 4 * (i : Int) + k := fun k hk hk' => wrap64 (by omega) (by omega)
  have t1 : (4 * (i : Int)).toNat = 4 * i := by omega
  have t2a : (4 * (i : Int) + 1).toNat = 4 * i + 1 := by omega
  have t2b : (4 * (i : Int) + 2).toNat = 4 * i + 2 := by omega
  have t2c : (4 * (i : Int) + 3).toNat = 4 * i + 3 := by omega
  have w : IntKind.i64.wrap ((i : Int) + 1) = (i : Int) + 1 := wrap64 (by omega) (by omega)
  refine BrT.dec (fun h => ?_) (fun h => ?_)
  · have hi2 : i < 16 := by omega
    have e0 := bAt_at (b := d) (i := 4 * i) (by omega)
    have e1 := bAt_at (b := d) (i := 4 * i + 1) (by omega)
    have e2 := bAt_at (b := d) (i := 4 * i + 2) (by omega)
    have e3 := bAt_at (b := d) (i := 4 * i + 3) (by omega)
    have g0 : 4 * (i : Int) < d.length := by omega
    have g1 : 4 * (i : Int) + 1 < d.length := by omega
    have g2 : 4 * (i : Int) + 2 < d.length := by omega
    have g3 : 4 * (i : Int) + 3 < d.length := by omega
    have g4 : (i : Int) < 64 := by omega
    have p0 : 0 ≤ 4 * (i : Int) := by omega
    have p1 : ∀ k : Int, 0 ≤ k → 0 ≤ 4 * (i : Int) + k := fun k hk => by omega
    have hl := wrow_len (ws := sch d i) (by simp; omega)
    have g5 : i + 1 ≤ 64 := by omega
    simp [ne, ne2, hgl, h0, h1, h4, h19, h1048576, hBb, hn, hg, hmd, hq, h, w1, w2, t1, t2a, t2b, t2c, e0, e1, e2, e3, g0, g1, g2, g3, g4, g5, hl, p0, p1, w]
    refine ⟨DrawT.mk (by kernel_rfl), ⟨i + 1, by omega, by omega, by simp, wrow_set' (by omega) (by simp [hi2, w4]), by simp [old_set, ho]⟩, upTo_lt h19 (by simp) hi2⟩
  have hi3 : i = 16 := by omega
  subst hi3
  simp [ne, ne2, hgl, h0, h1, h4, h19, h1048576, hBb, hn, hg, hmd, hq, h]
  refine LoopT.round (fun E S => ∃ (i : Nat), (16 ≤ i ∧ i ≤ 64) ∧ (S0.nx < S.nx) ∧ E 0 = some (.op b 0) ∧ E 4 = some (.op S0.nx 0) ∧ E 6 = some (.d (dI i)) ∧ E 1048576 = some (.d (kD)) ∧ S.B b = some (v.ss ++ rest) ∧ (S.B S0.nx = some (wrow (sch d i))) ∧ (Old S0 [] [] S)) (upTo 6 64) ⟨16, by simp [ne, ne2, hgl, h0, h1, h4, h19, h1048576, hBb, hn, hg, hmd, hq, h, ho]; omega⟩ ?_
  rintro E S hk ⟨i, hi, hx, h0, h4, h6, h1048576, hBb, hq, ho⟩
  have hn : S.n = 215 := by first | (simpa using hk.n) | (have hh := hk.n; simp [ne, ne2, hgl, h0, h1, h4, h19, h1048576, hBb, hn, hg, hmd, hq, h] at hh; exact hh)
  have hg : S.gl = sumGl := by first | (simpa using hk.gl) | (have hh := hk.gl; simp [ne, ne2, hgl, h0, h1, h4, h19, h1048576, hBb, hn, hg, hmd, hq, h] at hh; exact hh)
  have hmd : S.md = [] := by first | (simpa using hk.md) | (have hh := hk.md; simp [ne, ne2, hgl, h0, h1, h4, h19, h1048576, hBb, hn, hg, hmd, hq, h] at hh; exact hh)
  simp [ne, ne2, hgl, h0, h1, h4, h19, h1048576, hBb, hn, hg, hmd, hq, h, h0, h4, h6, h1048576, hBb, hn, hg, hmd]
  have hw : ∀ k : Int, 0 ≤ k → k ≤ 16 → IntKind.i64.wrap ((i : Int) - k) = (i : Int) - k := fun k hk hk' => wrap64 (by omega) (by omega)
  have ws := wrap64 (n := (i : Int) + 1) (by omega) (by omega)
  refine BrT.dec (fun h => ?_) (fun h => ?_)
  · have hi2 : i < 64 := by omega
    have e1 := wrow_at (ws := sch d i) (i := i - 15) (by simp; omega)
    have e2 := wrow_at (ws := sch d i) (i := i - 2) (by simp; omega)
    have e3 := wrow_at (ws := sch d i) (i := i - 16) (by simp; omega)
    have e4 := wrow_at (ws := sch d i) (i := i - 7) (by simp; omega)
    have ga : (15 : Int) ≤ i := by omega
    have gb : (2 : Int) ≤ i := by omega
    have gc : (16 : Int) ≤ i := by omega
    have gd : (7 : Int) ≤ i := by omega
    have g2 : ∀ k : Int, 0 ≤ k → (i : Int) - k < 64 := fun k hk => by omega
    have g3 : (i : Int) < 64 := by omega
    have g5 : i + 1 ≤ 64 := by omega
    have t1 : ((i : Int) - 15).toNat = i - 15 := by omega
    have t2 : ((i : Int) - 2).toNat = i - 2 := by omega
    have t3 : ((i : Int) - 16).toNat = i - 16 := by omega
    have t4 : ((i : Int) - 7).toNat = i - 7 := by omega
    have hl := wrow_len (ws := sch d i) (by simp; omega)
    simp [ne, ne2, hgl, h0, h1, h4, h19, h1048576, hBb, hn, hg, hmd, hq, h, h0, h4, h6, h1048576, hBb, hn, hg, hmd, hq, h, hw, e1, e2, e3, e4, ga, gb, gc, gd, g2, g3, g5, t1, t2, t3, t4, hl]
    repeat refine ⟨DrawT.mk (by kernel_rfl), ?_⟩
    refine CallT.p0 (p_rotl' _ (-7) 7 (by omega) (by decide)) (by first | rfl | (simp; done) | (simp; rfl)) ?_
    simp [ne, ne2, hgl, h0, h1, h4, h19, h1048576, hBb, hn, hg, hmd, hq, h, h0, h4, h6, h1048576, hBb, hn, hg, hmd, hq, h, hw, e1, e2, e3, e4, ga, gb, gc, gd, g2, g3, g5, t1, t2, t3, t4, hl]
    repeat refine ⟨DrawT.mk (by kernel_rfl), ?_⟩
    refine CallT.p0 (p_rotl' _ (-18) 18 (by omega) (by decide)) (by first | rfl | (simp; done) | (simp; rfl)) ?_
    simp [ne, ne2, hgl, h0, h1, h4, h19, h1048576, hBb, hn, hg, hmd, hq, h, h0, h4, h6, h1048576, hBb, hn, hg, hmd, hq, h, hw, e1, e2, e3, e4, ga, gb, gc, gd, g2, g3, g5, t1, t2, t3, t4, hl]
    repeat refine ⟨DrawT.mk (by kernel_rfl), ?_⟩
    refine CallT.p0 (p_rotl' _ (-17) 17 (by omega) (by decide)) (by first | rfl | (simp; done) | (simp; rfl)) ?_
    simp [ne, ne2, hgl, h0, h1, h4, h19, h1048576, hBb, hn, hg, hmd, hq, h, h0, h4, h6, h1048576, hBb, hn, hg, hmd, hq, h, hw, e1, e2, e3, e4, ga, gb, gc, gd, g2, g3, g5, t1, t2, t3, t4, hl]
    repeat refine ⟨DrawT.mk (by kernel_rfl), ?_⟩
    refine CallT.p0 (p_rotl' _ (-19) 19 (by omega) (by decide)) (by first | rfl | (simp; done) | (simp; rfl)) ?_
    simp [ne, ne2, hgl, h0, h1, h4, h19, h1048576, hBb, hn, hg, hmd, hq, h, h0, h4, h6, h1048576, hBb, hn, hg, hmd, hq, h, hw, e1, e2, e3, e4, ga, gb, gc, gd, g2, g3, g5, t1, t2, t3, t4, hl]
    repeat refine ⟨DrawT.mk (by kernel_rfl), ?_⟩
    simp [ne, ne2, hgl, h0, h1, h4, h19, h1048576, hBb, hn, hg, hmd, hq, h, h0, h4, h6, h1048576, hBb, hn, hg, hmd, hq, h, hw, e1, e2, e3, e4, ga, gb, gc, gd, g2, g3, g5, t1, t2, t3, t4, hl, ws]
    refine ⟨⟨i + 1, by omega, by omega, by simp, wrow_set' (by omega) ?_, by simp [old_set, ho]⟩, upTo_lt h6 (by simp) hi2⟩
    have : ¬ i < 16 := by omega
    simp [this, ext]
  have hi3 : i = 64 := by omega
  subst hi3
  simp [ne, ne2, hgl, h0, h1, h4, h19, h1048576, hBb, hn, hg, hmd, hq, h, h0, h4, h6, h1048576, hBb, hn, hg, hmd, hq, h]
  refine LoopT.round (fun E S => ∃ (i : Nat) (q : Nat), (i ≤ 64) ∧ (S0.nx < S.nx) ∧ (S0.nx < q) ∧ (q < S.nx) ∧ E 0 = some (.op b 0) ∧ E 4 = some (.op S0.nx 0) ∧ E 9 = some (.op q 0) ∧ E 115 = some (.d (dI i)) ∧ E 1048576 = some (.d (kD)) ∧ S.B b = some (v.ss ++ rest) ∧ (S.B S0.nx = some (wrow (sch d 64))) ∧ S.B q = some ((rnds d v i).ss) ∧ (Old S0 [] [] S)) (upTo 115 64) ⟨0, S.nx + 2 + 4, by simp [ne, ne2, hgl, h0, h1, h4, h19, h1048576, hBb, hn, hg, hmd, hq, h, h0, h4, h6, h1048576, hBb, hn, hg, hmd, hq, h, ho, rnds, old_set, old_new, show ¬ b = S.nx + 2 + 4 by omega, show ¬ S0.nx = S.nx + 2 + 4 by omega, show S0.nx ≤ S.nx + 2 + 4 by omega]; omega⟩ ?_
  rintro E S hk ⟨i, q, hi, hx, hq0, hq1, h0, h4, h9, h115, h1048576, hBb, hq, hBq, ho⟩
  have hn : S.n = 215 := by first | (simpa using hk.n) | (have hh := hk.n; simp [ne, ne2, hgl, h0, h1, h4, h19, h1048576, hBb, hn, hg, hmd, hq, h, h0, h4, h6, h1048576, hBb, hn, hg, hmd, hq, h] at hh; exact hh)
  have hg : S.gl = sumGl := by first | (simpa using hk.gl) | (have hh := hk.gl; simp [ne, ne2, hgl, h0, h1, h4, h19, h1048576, hBb, hn, hg, hmd, hq, h, h0, h4, h6, h1048576, hBb, hn, hg, hmd, hq, h] at hh; exact hh)
  have hmd : S.md = [] := by first | (simpa using hk.md) | (have hh := hk.md; simp [ne, ne2, hgl, h0, h1, h4, h19, h1048576, hBb, hn, hg, hmd, hq, h, h0, h4, h6, h1048576, hBb, hn, hg, hmd, hq, h] at hh; exact hh)
  simp [ne, ne2, hgl, h0, h1, h4, h19, h1048576, hBb, hn, hg, hmd, hq, h, h0, h4, h6, h1048576, hBb, hn, hg, hmd, hq, h, h0, h4, h9, h115, h1048576, hBb, hBq, hn, hg, hmd]
  have nq1 : ¬ b = q := by omega
  have nq2 : ¬ q = b := by omega
  have nq3 : ¬ S0.nx = q := by omega
  have nq4 : ¬ q = S0.nx := by omega
  have hw := wrap64 (n := (i : Int) + 1) (by omega) (by omega)
  refine BrT.dec (fun h => ?_) (fun h => ?_)
  · have hi2 : i < 64 := by omega
    have e1 := wrow_at (ws := sch d 64) (i := i) (by simp; omega)
    have e2 := kAt_at hi2
    have g3 : (i : Int) < 64 := by omega
    generalize hr : rnds d v i = r at *
    simp [ne, ne2, hgl, h0, h1, h4, h19, h1048576, hBb, hn, hg, hmd, hq, h, h0, h4, h6, h1048576, hBb, hn, hg, hmd, hq, h, h0, h4, h9, h115, h1048576, hBb, hBq, hn, hg, hmd, hq, nq1, nq2, nq3, nq4, h, hi2, e1, e2, g3, hw]
    repeat refine ⟨DrawT.mk (by kernel_rfl), ?_⟩
    refine CallT.p0 (p_rotl' _ (-6) 6 (by omega) (by decide)) (by first | rfl | (simp; done) | (simp; rfl)) ?_
    simp [ne, ne2, hgl, h0, h1, h4, h19, h1048576, hBb, hn, hg, hmd, hq, h, h0, h4, h6, h1048576, hBb, hn, hg, hmd, hq, h, h0, h4, h9, h115, h1048576, hBb, hBq, hn, hg, hmd, hq, nq1, nq2, nq3, nq4, h, hi2, e1, e2, g3, hw]
    repeat refine ⟨DrawT.mk (by kernel_rfl), ?_⟩
    refine CallT.p0 (p_rotl' _ (-11) 11 (by omega) (by decide)) (by first | rfl | (simp; done) | (simp; rfl)) ?_
    simp [ne, ne2, hgl, h0, h1, h4, h19, h1048576, hBb, hn, hg, hmd, hq, h, h0, h4, h6, h1048576, hBb, hn, hg, hmd, hq, h, h0, h4, h9, h115, h1048576, hBb, hBq, hn, hg, hmd, hq, nq1, nq2, nq3, nq4, h, hi2, e1, e2, g3, hw]
    repeat refine ⟨DrawT.mk (by kernel_rfl), ?_⟩
    refine CallT.p0 (p_rotl' _ (-25) 25 (by omega) (by decide)) (by first | rfl | (simp; done) | (simp; rfl)) ?_
    simp [ne, ne2, hgl, h0, h1, h4, h19, h1048576, hBb, hn, hg, hmd, hq, h, h0, h4, h6, h1048576, hBb, hn, hg, hmd, hq, h, h0, h4, h9, h115, h1048576, hBb, hBq, hn, hg, hmd, hq, nq1, nq2, nq3, nq4, h, hi2, e1, e2, g3, hw]
    repeat refine ⟨DrawT.mk (by kernel_rfl), ?_⟩
    refine CallT.p0 (p_rotl' _ (-2) 2 (by omega) (by decide)) (by first | rfl | (simp; done) | (simp; rfl)) ?_
    simp [ne, ne2, hgl, h0, h1, h4, h19, h1048576, hBb, hn, hg, hmd, hq, h, h0, h4, h6, h1048576, hBb, hn, hg, hmd, hq, h, h0, h4, h9, h115, h1048576, hBb, hBq, hn, hg, hmd, hq, nq1, nq2, nq3, nq4, h, hi2, e1, e2, g3, hw]
    repeat refine ⟨DrawT.mk (by kernel_rfl), ?_⟩
    refine CallT.p0 (p_rotl' _ (-13) 13 (by omega) (by decide)) (by first | rfl | (simp; done) | (simp; rfl)) ?_
    simp [ne, ne2, hgl, h0, h1, h4, h19, h1048576, hBb, hn, hg, hmd, hq, h, h0, h4, h6, h1048576, hBb, hn, hg, hmd, hq, h, h0, h4, h9, h115, h1048576, hBb, hBq, hn, hg, hmd, hq, nq1, nq2, nq3, nq4, h, hi2, e1, e2, g3, hw]
    repeat refine ⟨DrawT.mk (by kernel_rfl), ?_⟩
    refine CallT.p0 (p_rotl' _ (-22) 22 (by omega) (by decide)) (by first | rfl | (simp; done) | (simp; rfl)) ?_
    simp [ne, ne2, hgl, h0, h1, h4, h19, h1048576, hBb, hn, hg, hmd, hq, h, h0, h4, h6, h1048576, hBb, hn, hg, hmd, hq, h, h0, h4, h9, h115, h1048576, hBb, hBq, hn, hg, hmd, hq, nq1, nq2, nq3, nq4, h, hi2, e1, e2, g3, hw]
    refine ⟨⟨i + 1, by omega, by omega, q, hq0, by omega, rfl, by simp, ?_, by simp [old_set, ho, show S0.nx ≤ q by omega]⟩, upTo_lt h115 (by simp) hi2⟩
    simp [rnds, hr, rnd]
  have hi3 : i = 64 := by omega
  subst hi3
  generalize hr : rnds d v 64 = r at *
  simp [ne, ne2, hgl, h0, h1, h4, h19, h1048576, hBb, hn, hg, hmd, hq, h, h0, h4, h6, h1048576, hBb, hn, hg, hmd, hq, h, h0, h4, h9, h115, h1048576, hBb, hBq, hn, hg, hmd, hq, nq1, nq2, nq3, nq4, h]
  refine LoopT.rounds 9 ?_
  have ho' : Old S0 [b] [] S := ho.more (by simp) (by simp)
  simp [ne, ne2, hgl, h0, h1, h4, h19, h1048576, hBb, hn, hg, hmd, hq, h, h0, h4, h6, h1048576, hBb, hn, hg, hmd, hq, h, h0, h4, h9, h115, h1048576, hBb, hBq, hn, hg, hmd, hq, nq1, nq2, nq3, nq4, h, RndT_succ]
  repeat refine ⟨DrawT.mk (by kernel_rfl), ?_⟩
  refine elder_old (bs := [b]) (ts := []) ?_ ?_ ?_ ?_ ?_ ?_ ?_
  · simp [old_setIn, ho']
  · simp [blk, V.add, hr]
  · simp
  · simp [hb, ltS, SV.lt, hrest]
  · simp
  · simp
  · simp
end Go.Proofs.YtocjkeieieknbaaDoor
