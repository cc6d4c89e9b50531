/- A sum's constants and words, as the model makes them. -/
import Derived.Test.YtocjkeieieknbaaDoorSa
set_option linter.unusedVariables false
set_option linter.unusedSimpArgs false
set_option maxRecDepth 100000
namespace Go.Proofs.YtocjkeieieknbaaDoor
open Go.Sh
def kL : List W := [0x428a2f98, 0x71374491, 0xb5c0fbcf, 0xe9b5dba5, 0x3956c25b, 0x59f111f1, 0x923f82a4, 0xab1c5ed5, 0xd807aa98, 0x12835b01, 0x243185be, 0x550c7dc3, 0x72be5d74, 0x80deb1fe, 0x9bdc06a7, 0xc19bf174, 0xe49b69c1, 0xefbe4786, 0x0fc19dc6, 0x240ca1cc, 0x2de92c6f, 0x4a7484aa, 0x5cb0a9dc, 0x76f988da, 0x983e5152, 0xa831c66d, 0xb00327c8, 0xbf597fc7, 0xc6e00bf3, 0xd5a79147, 0x06ca6351, 0x14292967, 0x27b70a85, 0x2e1b2138, 0x4d2c6dfc, 0x53380d13, 0x650a7354, 0x766a0abb, 0x81c2c92e, 0x92722c85, 0xa2bfe8a1, 0xa81a664b, 0xc24b8b70, 0xc76c51a3, 0xd192e819, 0xd6990624, 0xf40e3585, 0x106aa070, 0x19a4c116, 0x1e376c08, 0x2748774c, 0x34b0bcb5, 0x391c0cb3, 0x4ed8aa4a, 0x5b9cca4f, 0x682e6ff3, 0x748f82ee, 0x78a5636f, 0x84c87814, 0x8cc70208, 0x90befffa, 0xa4506ceb, 0xbef9a3f7, 0xc67178f2]
def kAt (i : Nat) : W := kL.getD i 0
def turn (x : W) (n : Nat) : W := (x >>> n) ||| (x <<< (32 - n))
theorem p_turn' (x : W) (n : Nat) (h : n ≤ 32) : PCall Tryd.prog noGl 39 [dW x, dI n] (dW (turn x n)) := p_turn x n h
def bAt (b : List UInt8) (i : Nat) : UInt8 := b.getD i 0
def wAt (ws : List W) (i : Nat) : W := ws.getD i 0
def w4 (b : List UInt8) (i : Nat) : W := ((wB (bAt b (4 * i)) <<< 24 ||| wB (bAt b (4 * i + 1)) <<< 16) ||| wB (bAt b (4 * i + 2)) <<< 8) ||| wB (bAt b (4 * i + 3))
def ext (ws : List W) : W :=
  let x := wAt ws (ws.length - 15)
  let y := wAt ws (ws.length - 2)
  wAt ws (ws.length - 16) + ((turn x 7 ^^^ turn x 18) ^^^ (x >>> 3)) + wAt ws (ws.length - 7) + ((turn y 17 ^^^ turn y 19) ^^^ (y >>> 10))
def sch (b : List UInt8) : Nat → List W
  | 0 => []
  | n + 1 => sch b n ++ [if n < 16 then w4 b n else ext (sch b n)]
@[simp] theorem sch_len (b : List UInt8) : ∀ n, (sch b n).length = n
  | 0 => rfl
  | n + 1 => by simp [sch, sch_len b n]
theorem bAt_at {b : List UInt8} {i : Nat} (h : i < b.length) : b[i]? = some (bAt b i) := by simp [bAt, h]
theorem wAt_at {b : List W} {i : Nat} (h : i < b.length) : b[i]? = some (wAt b i) := by simp [wAt, h]

set_option maxHeartbeats 4000000 in
theorem p_consts : PCall Tryd.prog noGl 38 [] (.ps (kL.map dW) 64) := by
  refine PCall.by_ (md := []) Tryd.func38 rfl (by kernel_rfl) (n := 2) Tryd.ntmps38 (by simp) (by decide) rfl ?_
  simp
  rfl

set_option maxHeartbeats 4000000 in
theorem p_words (b : List UInt8) (hb : b.length = 64) : PCall Tryd.prog noGl 37 [yD b] (.ps ((sch b 64).map dW) 64) := by
  refine PCall.by_ (md := [10]) Tryd.func37 rfl (by kernel_rfl) (n := 100) Tryd.ntmps37 (by simp) (by decide) rfl ?_
  simp
  refine LoopT.round (fun E S => ∃ (i : Nat) (t : Nat), (i ≤ 16) ∧ (t < S.nx) ∧ E 0 = some (.d (yD b)) ∧ E 3 = some (.tp t 0 ((sch b i).map dW) i) ∧ E 4 = some (.d (dI i)) ∧ (S.T t = some (i, 1))) (upTo 4 16) ⟨0, 1, by simp [sch]⟩ ?_
  rintro E S hk ⟨i, t, hi, ht, h0, h3, h4, hT⟩
  have hn : S.n = 100 := by first | (simpa using hk.n) | (have hh := hk.n; simp at hh; exact hh)
  have hg : S.gl = noGl := by first | (simpa using hk.gl) | (have hh := hk.gl; simp at hh; exact hh)
  have hmd : S.md = [10] := by first | (simpa using hk.md) | (have hh := hk.md; simp at hh; exact hh)
  simp [h0, h3, h4, hn, hg, hmd]
  have w1 : IntKind.i64.wrap (4 * (i : Int)) = 4 * (i : Int) := wrap64 (by omega) (by omega)
  have w2 : ∀ k : Int, 0 ≤ k → k ≤ 3 → IntKind.i64.wrap (4 * (i : Int) + k) = 4 * (i : Int) + k := fun k hk hk' => wrap64 (by omega) (by omega)
  have t1 : (4 * (i : Int)).toNat = 4 * i := by omega
  have t2a : (4 * (i : Int) + 1).toNat = 4 * i + 1 := by omega
  have t2b : (4 * (i : Int) + 2).toNat = 4 * i + 2 := by omega
  have t2c : (4 * (i : Int) + 3).toNat = 4 * i + 3 := by omega
  have w : IntKind.i64.wrap ((i : Int) + 1) = (i : Int) + 1 := wrap64 (by omega) (by omega)
  refine BrT.dec (fun h => ?_) (fun h => ?_)
  · have hi2 : i < 16 := by omega
    have e0 := bAt_at (b := b) (i := 4 * i) (by omega)
    have e1 := bAt_at (b := b) (i := 4 * i + 1) (by omega)
    have e2 := bAt_at (b := b) (i := 4 * i + 2) (by omega)
    have e3 := bAt_at (b := b) (i := 4 * i + 3) (by omega)
    have g0 : 4 * (i : Int) < b.length := by omega
    have g1 : 4 * (i : Int) + 1 < b.length := by omega
    have g2 : 4 * (i : Int) + 2 < b.length := by omega
    have g3 : 4 * (i : Int) + 3 < b.length := by omega
    have p0 : 0 ≤ 4 * (i : Int) := by omega
    have p1 : ∀ k : Int, 0 ≤ k → 0 ≤ 4 * (i : Int) + k := fun k hk => by omega
    have d : appBound i 1 4 := by unfold appBound; omega
    simp [h0, h3, h4, hn, hg, hmd, h, w1, w2, t1, t2a, t2b, t2c, e0, e1, e2, e3, g0, g1, g2, g3, p0, p1, d, w, hT]
    refine ⟨DrawT.mk (by kernel_rfl), ⟨i + 1, by omega, t, by omega, ⟨rfl, ?_, rfl⟩, by omega, by simp⟩, upTo_lt h4 (by simp) hi2⟩
    simp [sch, hi2, w4]
  have hi3 : i = 16 := by omega
  subst hi3
  simp [h0, h3, h4, hn, hg, hmd, h]
  refine LoopT.round (fun E S => ∃ (i : Nat) (t : Nat), (16 ≤ i ∧ i ≤ 64) ∧ (t < S.nx) ∧ E 3 = some (.tp t 0 ((sch b i).map dW) i) ∧ E 5 = some (.d (dI i)) ∧ (S.T t = some (i, 1))) (upTo 5 64) ⟨16, t, by simp [h0, h3, h4, hn, hg, hmd, h, hT]; omega⟩ ?_
  rintro E S hk ⟨i, t, hi, ht, h3, h5, hT⟩
  have hn : S.n = 100 := by first | (simpa using hk.n) | (have hh := hk.n; simp [h0, h3, h4, hn, hg, hmd, h] at hh; exact hh)
  have hg : S.gl = noGl := by first | (simpa using hk.gl) | (have hh := hk.gl; simp [h0, h3, h4, hn, hg, hmd, h] at hh; exact hh)
  have hmd : S.md = [10] := by first | (simpa using hk.md) | (have hh := hk.md; simp [h0, h3, h4, hn, hg, hmd, h] at hh; exact hh)
  simp [h0, h3, h4, hn, hg, hmd, h, h3, h5, hn, hg, hmd]
  have hw : ∀ k : Int, 0 ≤ k → k ≤ 16 → IntKind.i64.wrap ((i : Int) - k) = (i : Int) - k := fun k hk hk' => wrap64 (by omega) (by omega)
  have ws := wrap64 (n := (i : Int) + 1) (by omega) (by omega)
  refine BrT.dec (fun h => ?_) (fun h => ?_)
  · have hi2 : i < 64 := by omega
    have e1 := wAt_at (b := sch b i) (i := i - 15) (by simp; omega)
    have e2 := wAt_at (b := sch b i) (i := i - 2) (by simp; omega)
    have e3 := wAt_at (b := sch b i) (i := i - 16) (by simp; omega)
    have e4 := wAt_at (b := sch b i) (i := i - 7) (by simp; omega)
    have ga : (15 : Int) ≤ i := by omega
    have gb : (2 : Int) ≤ i := by omega
    have gc : (16 : Int) ≤ i := by omega
    have gd : (7 : Int) ≤ i := by omega
    have g2 : ∀ k : Int, 0 < k → (i : Int) - k < i := fun k hk => by omega
    have t1 : ((i : Int) - 15).toNat = i - 15 := by omega
    have t2 : ((i : Int) - 2).toNat = i - 2 := by omega
    have t3 : ((i : Int) - 16).toNat = i - 16 := by omega
    have t4 : ((i : Int) - 7).toNat = i - 7 := by omega
    have d : appBound i 1 4 := by unfold appBound; omega
    simp [h0, h3, h4, hn, hg, hmd, h, h3, h5, hn, hg, hmd, h, hw, e1, e2, e3, e4, ga, gb, gc, gd, g2, t1, t2, t3, t4]
    repeat refine ⟨DrawT.mk (by kernel_rfl), ?_⟩
    refine CallT.p0 (p_turn' _ 7 (by omega)) (by first | rfl | (simp; done) | (simp; rfl)) ?_
    simp [h0, h3, h4, hn, hg, hmd, h, h3, h5, hn, hg, hmd, h, hw, e1, e2, e3, e4, ga, gb, gc, gd, g2, t1, t2, t3, t4]
    repeat refine ⟨DrawT.mk (by kernel_rfl), ?_⟩
    refine CallT.p0 (p_turn' _ 18 (by omega)) (by first | rfl | (simp; done) | (simp; rfl)) ?_
    simp [h0, h3, h4, hn, hg, hmd, h, h3, h5, hn, hg, hmd, h, hw, e1, e2, e3, e4, ga, gb, gc, gd, g2, t1, t2, t3, t4]
    repeat refine ⟨DrawT.mk (by kernel_rfl), ?_⟩
    refine CallT.p0 (p_turn' _ 17 (by omega)) (by first | rfl | (simp; done) | (simp; rfl)) ?_
    simp [h0, h3, h4, hn, hg, hmd, h, h3, h5, hn, hg, hmd, h, hw, e1, e2, e3, e4, ga, gb, gc, gd, g2, t1, t2, t3, t4]
    repeat refine ⟨DrawT.mk (by kernel_rfl), ?_⟩
    refine CallT.p0 (p_turn' _ 19 (by omega)) (by first | rfl | (simp; done) | (simp; rfl)) ?_
    simp [h0, h3, h4, hn, hg, hmd, h, h3, h5, hn, hg, hmd, h, hw, e1, e2, e3, e4, ga, gb, gc, gd, g2, t1, t2, t3, t4]
    simp [h0, h3, h4, hn, hg, hmd, h, h3, h5, hn, hg, hmd, h, hw, e1, e2, e3, e4, ga, gb, gc, gd, g2, t1, t2, t3, t4, hT, d, ws]
    refine ⟨DrawT.mk (by kernel_rfl), ⟨i + 1, by omega, t, by omega, ⟨rfl, ?_, rfl⟩, by omega, by simp⟩, upTo_lt h5 (by simp) hi2⟩
    have : ¬ i < 16 := by omega
    simp [sch, this, ext]
  · have hi3 : i = 64 := by omega
    subst hi3
    simp [h0, h3, h4, hn, hg, hmd, h, h3, h5, hn, hg, hmd, h]
end Go.Proofs.YtocjkeieieknbaaDoor
