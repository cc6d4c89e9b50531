/- A block of a sum, as the model adds it. -/
import Derived.Test.YtocjkeieieknbaaDoorSb
set_option linter.unusedVariables false
set_option linter.unusedSimpArgs false
set_option maxRecDepth 100000
namespace Go.Proofs.YtocjkeieieknbaaDoor
open Go.Sh
/-- A sum's eight words. -/
structure V where
  a : W
  b : W
  c : W
  d : W
  e : W
  f : W
  g : W
  h : W
abbrev V.l (v : V) : List W := [v.a, v.b, v.c, v.d, v.e, v.f, v.g, v.h]
abbrev V.ds (v : V) : List D := [dW v.a, dW v.b, dW v.c, dW v.d, dW v.e, dW v.f, dW v.g, dW v.h]
abbrev V.ss (v : V) : List SV := [.d (dW v.a), .d (dW v.b), .d (dW v.c), .d (dW v.d), .d (dW v.e), .d (dW v.f), .d (dW v.g), .d (dW v.h)]
def rnd (k w : W) (v : V) : V :=
  let high := turn v.e 6 ^^^ turn v.e 11 ^^^ turn v.e 25
  let choice := v.e &&& v.f ^^^ ~~~ v.e &&& v.g
  let first := v.h + high + choice + k + w
  let low := turn v.a 2 ^^^ turn v.a 13 ^^^ turn v.a 22
  let most := v.a &&& v.b ^^^ v.a &&& v.c ^^^ v.b &&& v.c
  ⟨first + low + most, v.a, v.b, v.c, v.d + first, v.e, v.f, v.g⟩
def rnds (b : List UInt8) (v : V) : Nat → V
  | 0 => v
  | n + 1 => rnd (kAt n) (wAt (sch b 64) n) (rnds b v n)
def V.add (v w : V) : V := ⟨v.a + w.a, v.b + w.b, v.c + w.c, v.d + w.d, v.e + w.e, v.f + w.f, v.g + w.g, v.h + w.h⟩
def blk (v : V) (b : List UInt8) : V := v.add (rnds b v 64)
theorem kL_len : kL.length = 64 := by rfl
theorem kAt_at {i : Nat} (h : i < 64) : kL[i]? = some (kAt i) := by
  have : i < kL.length := by rw [kL_len]; exact h
  unfold kAt
  rw [List.getD_eq_getElem?_getD, List.getElem?_eq_getElem this]; rfl

set_option maxHeartbeats 8000000 in
theorem p_block (v : V) (b : List UInt8) (hb : b.length = 64) : PCall Tryd.prog noGl 33 [.ps v.ds 8, yD b] (.ps (blk v b).ds 8) := by
  refine PCall.by_ (md := [22]) Tryd.func33 rfl (by kernel_rfl) (n := 155) Tryd.ntmps33 (by simp) (by decide) rfl ?_
  simp
  repeat refine ⟨DrawT.mk (by kernel_rfl), ?_⟩
  refine CallT.p0 (p_words b hb) (by first | rfl | (simp; done) | (simp; rfl)) ?_
  simp
  repeat refine ⟨DrawT.mk (by kernel_rfl), ?_⟩
  refine CallT.p0 (p_consts) (by first | rfl | (simp; done) | (simp; rfl)) ?_
  simp
  have d0 : appBound 0 8 4 := by decide
  simp [d0]
  refine LoopT.round (fun E S => ∃ (i : Nat), (i ≤ 64) ∧ E 0 = some (.d (.ps v.ds 8)) ∧ E 5 = some (.d (.ps ((sch b 64).map dW) 64)) ∧ E 6 = some (.d (.ps (kL.map dW) 64)) ∧ E 7 = some (.os 8 0 8) ∧ E 8 = some (.d (dI i)) ∧ S.B 8 = some ((rnds b v i).ss)) (upTo 8 64) ⟨0, by simp [d0, rnds]⟩ ?_
  rintro E S hk ⟨i, hi, h0, h5, h6, h7, h8, hB8⟩
  have hn : S.n = 155 := by first | (simpa using hk.n) | (have hh := hk.n; simp [d0] at hh; exact hh)
  have hg : S.gl = noGl := by first | (simpa using hk.gl) | (have hh := hk.gl; simp [d0] at hh; exact hh)
  have hmd : S.md = [22] := by first | (simpa using hk.md) | (have hh := hk.md; simp [d0] at hh; exact hh)
  simp [d0, h0, h5, h6, h7, h8, hB8, hn, hg, hmd]
  have w := wrap64 (n := (i : Int) + 1) (by omega) (by omega)
  refine BrT.dec (fun h => ?_) (fun h => ?_)
  · have hi2 : i < 64 := by omega
    have e1 := wAt_at (b := sch b 64) (i := i) (by simp; omega)
    have e2 := kAt_at hi2
    generalize hr : rnds b v i = r at *
    simp [d0, h0, h5, h6, h7, h8, hB8, hn, hg, hmd, h, hi2, e1, e2]
    repeat refine ⟨DrawT.mk (by kernel_rfl), ?_⟩
    refine CallT.p0 (p_turn' _ 6 (by omega)) (by first | rfl | (simp; done) | (simp; rfl)) ?_
    simp [d0, h0, h5, h6, h7, h8, hB8, hn, hg, hmd, h, hi2, e1, e2]
    repeat refine ⟨DrawT.mk (by kernel_rfl), ?_⟩
    refine CallT.p0 (p_turn' _ 11 (by omega)) (by first | rfl | (simp; done) | (simp; rfl)) ?_
    simp [d0, h0, h5, h6, h7, h8, hB8, hn, hg, hmd, h, hi2, e1, e2]
    repeat refine ⟨DrawT.mk (by kernel_rfl), ?_⟩
    refine CallT.p0 (p_turn' _ 25 (by omega)) (by first | rfl | (simp; done) | (simp; rfl)) ?_
    simp [d0, h0, h5, h6, h7, h8, hB8, hn, hg, hmd, h, hi2, e1, e2]
    repeat refine ⟨DrawT.mk (by kernel_rfl), ?_⟩
    refine CallT.p0 (p_turn' _ 2 (by omega)) (by first | rfl | (simp; done) | (simp; rfl)) ?_
    simp [d0, h0, h5, h6, h7, h8, hB8, hn, hg, hmd, h, hi2, e1, e2]
    repeat refine ⟨DrawT.mk (by kernel_rfl), ?_⟩
    refine CallT.p0 (p_turn' _ 13 (by omega)) (by first | rfl | (simp; done) | (simp; rfl)) ?_
    simp [d0, h0, h5, h6, h7, h8, hB8, hn, hg, hmd, h, hi2, e1, e2]
    repeat refine ⟨DrawT.mk (by kernel_rfl), ?_⟩
    refine CallT.p0 (p_turn' _ 22 (by omega)) (by first | rfl | (simp; done) | (simp; rfl)) ?_
    simp [d0, h0, h5, h6, h7, h8, hB8, hn, hg, hmd, h, hi2, e1, e2]
    repeat refine ⟨DrawT.mk (by kernel_rfl), ?_⟩
    refine LoopT.rounds 8 ?_
    simp [d0, h0, h5, h6, h7, h8, hB8, hn, hg, hmd, h, hi2, e1, e2, RndT_succ, w]
    refine ⟨⟨i + 1, by omega, by omega, ?_⟩, upTo_lt h8 (by simp) hi2⟩
    simp [rnds, hr, rnd, wAt, hi2]
  · have hi3 : i = 64 := by omega
    subst hi3
    generalize hr : rnds b v 64 = r at *
    simp [d0, h0, h5, h6, h7, h8, hB8, hn, hg, hmd, h]
    refine LoopT.rounds 9 ?_
    have d : ∀ k, k ≤ 8 → appBound k 1 4 := fun k hk => by unfold appBound; omega
    simp [d0, h0, h5, h6, h7, h8, hB8, hn, hg, hmd, h, RndT_succ, d]
    repeat refine ⟨DrawT.mk (by kernel_rfl), ?_⟩
    simp [blk, V.add, hr]
end Go.Proofs.YtocjkeieieknbaaDoor
