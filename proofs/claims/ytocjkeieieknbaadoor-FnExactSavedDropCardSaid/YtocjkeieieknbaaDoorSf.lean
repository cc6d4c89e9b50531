/- A sum's end. -/
import Derived.Test.YtocjkeieieknbaaDoorSe
set_option linter.unusedVariables false
set_option linter.unusedSimpArgs false
set_option maxRecDepth 100000
namespace Go.Proofs.YtocjkeieieknbaaDoor
open Go.Sh
theorem fed_app : ∀ (n : Nat) (v : V) (a c : List UInt8), a.length ≤ n → fed v (a ++ c) = fed (fed v a).1 ((fed v a).2 ++ c)
  | n, v, a, c, h => by
    rcases Nat.lt_or_ge a.length 64 with h1 | h1
    · rw [fed_short h1]
    · cases n with
      | zero => omega
      | succ n =>
        rw [fed_step h1, fed_step (l := a ++ c) (by simp; omega), List.take_append_of_le_length h1, List.drop_append_of_le_length h1]
        exact fed_app n _ _ _ (by simp; omega)
theorem fed_mod : ∀ (n : Nat) (v : V) (l : List UInt8), l.length ≤ n → (fed v l).2.length = l.length % 64
  | n, v, l, h => by
    rcases Nat.lt_or_ge l.length 64 with h1 | h1
    · rw [fed_short h1]; exact (Nat.mod_eq_of_lt h1).symm
    · cases n with
      | zero => omega
      | succ n =>
        rw [fed_step h1, fed_mod n _ _ (by simp; omega)]
        simp; omega
def szB (m : Nat) (i : Nat) : UInt8 := UInt8.ofNat (m / 2 ^ (8 * i))
def szBytes (m : Nat) : List UInt8 := [szB m 7, szB m 6, szB m 5, szB m 4, szB m 3, szB m 2, szB m 1, szB m 0]
theorem szB_u64 (m i : Nat) : IntKind.u8.wrap ((m : Int).fdiv (2 ^ (8 * i))) = ((szB m i).toNat : Int) := by
  rw [IntKind.wrap_u8, Int.fdiv_eq_ediv_of_nonneg _ (Int.pow_nonneg (by omega))]
  unfold szB
  simp
def zerosOf (n : Nat) : List UInt8 := List.replicate ((119 - n % 64) % 64) 0
def tailOf (n : Nat) : List UInt8 := 128 :: zerosOf n ++ szBytes (8 * n)
theorem Sum.mono {S S' : St} {b : Nat} {v : V} {r : List UInt8} {n : Int} (h : Sum S b v r n) (hB : S'.B b = S.B b) (hT : ∀ x, x < S.nx → S'.T x = S.T x) (hn : S.nx ≤ S'.nx) (hg : S'.gl = sumGl) : Sum S' b v r n := by
  obtain ⟨h1, h2, R, h3, h4⟩ := h
  refine ⟨by omega, hg, R, hB.trans h3, ?_⟩
  rcases h4 with h4 | ⟨t, q, h5, h6, h7⟩
  · exact .inl h4
  · exact .inr ⟨t, q, by omega, h6, by rw [hT t h5]; exact h7⟩
theorem SumT.mono {S S' : St} {b : Nat} {v : V} {r : List UInt8} {n : Int} (h : SumT S b v r n) (hB : S'.B b = S.B b) (hT : ∀ x, x < S.nx → S'.T x = S.T x) (hn : S.nx ≤ S'.nx) (hg : S'.gl = sumGl) : SumT S' b v r n := by
  obtain ⟨h1, h2, t, q, h3, h4, h5⟩ := h
  exact ⟨by omega, hg, t, q, by omega, hB.trans h4, by rw [hT t h3]; exact h5⟩
/-- A call of write. -/
theorem callW {S : St} {b : Nat} {v : V} {r : List UInt8} {n : Int} {X : SV} {lo : Bool} {K : Bool → SV → St → Prop} (d : List UInt8) (hS : Sum S b v r n) (hX : ByteRow X d) (hd : d.length ≤ 70368744177664) (hd0 : d ≠ []) (hr : r.length ≤ 64) (hlo : lo = true)
    (hK : ∀ S' n', Keeps S S' → SumT S' b (fed v (r ++ d)).1 (fed v (r ++ d)).2 n' → K true (.tu []) S') : CallT lo Tryd.prog 22 [.op b 0, X] S K := by
  obtain ⟨S', h1, h2, h3⟩ := l_write S b v r n X d hS hX hd hr
  exact CallT.l h1 hlo (hK S' _ h1.2.1 (h3 hd0))
/-- How many noughts are still wanted. -/
def wants (b : Nat) (E : Env) (S : St) : Nat := (120 - waits b E S) % 64
set_option maxHeartbeats 8000000 in
theorem l_finish (S0 : St) (b : Nat) (v : V) (r : List UInt8) (n : Nat) (hS : Sum S0 b v r n) (hN : n ≤ 70368744177664) (hr : r.length = n % 64) :
    LCall Tryd.prog 23 [.op b 0] S0 (.tu []) (onlyS S0 b (fed v (r ++ tailOf n)).1.ss) := by
  obtain ⟨hb, hgl, R, hB, hR⟩ := hS
  have ne : ∀ k, S0.nx ≤ k → ¬ b = k := fun k => by omega
  have ne2 : ∀ k, S0.nx ≤ k → ¬ k = b := fun k => by omega
  have w1 : IntKind.u64.wrap ((n : Int) * 8) = ((8 * n : Nat) : Int) := by rw [IntKind.wrap_u64]; omega
  refine LCall.byE (md := []) (onlyS_keeps _ _ _) (by simp [SV.lt, ltS]) Tryd.func23 rfl (by kernel_rfl) (n := 38) Tryd.ntmps23 (by simp) (by decide) rfl ?_
  simp [ne, ne2, hgl, hB, w1]
  refine callW [128] (n := n) (Sum.mono ⟨hb, hgl, R, hB, hR⟩ rfl (fun _ _ => rfl) (by simp) rfl) ⟨rfl, rfl⟩ (by simp) (by simp) (by omega) rfl ?_
  intro S1 n1 hk1 hS1
  have hnx1 : S0.nx ≤ S1.nx := by have := hk1.nx; simp at this; omega
  have hn1 : S1.n = 38 := by simpa using hk1.n
  have hmd1 : S1.md = [] := by simpa using hk1.md
  have hg1 := hS1.2.1
  simp [ne, ne2, hgl, hB, w1, hn1, hmd1, hg1]
  refine LoopT.round (fun E S => ∃ (j : Nat) (v1 : V) (r1 : List UInt8) (n1 : Int), (S0.nx ≤ S.nx) ∧ E 0 = some (.op b 0) ∧ E 2 = some (.d (dN ((8 * n : Nat) : Int))) ∧ (j ≤ (119 - n % 64) % 64) ∧ (fed v (r ++ (128 :: List.replicate j 0)) = (v1, r1)) ∧ (SumT S b v1 r1 n1)) (wants b) ⟨0, (fed v (r ++ [128])).1, (fed v (r ++ [128])).2, n1, by simp [ne, ne2, hgl, hB, w1, hn1, hmd1, hg1]; exact ⟨hnx1, hS1⟩⟩ ?_
  rintro E S hk ⟨j, v1, r1, n1, hx, h0, h2, hj, hf, hs⟩
  have hn : S.n = 38 := by first | (simpa using hk.n) | (have hh := hk.n; simp [ne, ne2, hgl, hB, w1, hn1, hmd1, hg1] at hh; exact hh)
  have hg : S.gl = sumGl := by first | (simpa using hk.gl) | (have hh := hk.gl; simp [ne, ne2, hgl, hB, w1, hn1, hmd1, hg1] at hh; exact hh)
  have hmd : S.md = [] := by first | (simpa using hk.md) | (have hh := hk.md; simp [ne, ne2, hgl, hB, w1, hn1, hmd1, hg1] at hh; exact hh)
  simp [ne, ne2, hgl, hB, w1, hn1, hmd1, hg1, h0, h2, hn, hg, hmd]
  obtain ⟨hb1, hgS, t, q, ht, hBt, hTt⟩ := hs
  have ne3 : ∀ k, S.nx ≤ k → ¬ b = k := fun k => by omega
  simp [ne, ne2, hgl, hB, w1, hn1, hmd1, hg1, h0, h2, hn, hg, hmd, hBt, hTt]
  have hlen := fed_mod _ v (r ++ (128 :: List.replicate j 0)) (Nat.le_refl _)
  rw [hf] at hlen
  simp at hlen
  refine BrT.dec (fun c => ?_) (fun c => ?_)
  case refine_1 =>
    have d : ∀ k, k ≤ 8 → appBound k 1 1 := fun k hk => by unfold appBound; omega
    simp [ne, ne2, hgl, hB, w1, hn1, hmd1, hg1, h0, h2, hn, hg, hmd, hBt, hTt, c, d]
    refine LoopT.rounds 9 ?_
    have s7 := szB_u64 (8 * n) 7
    have s6 := szB_u64 (8 * n) 6
    have s5 := szB_u64 (8 * n) 5
    have s4 := szB_u64 (8 * n) 4
    have s3 := szB_u64 (8 * n) 3
    have s2 := szB_u64 (8 * n) 2
    have s1 := szB_u64 (8 * n) 1
    have s0 := szB_u64 (8 * n) 0
    simp at s0 s1 s2 s3 s4 s5 s6 s7
    simp [ne, ne2, hgl, hB, w1, hn1, hmd1, hg1, h0, h2, hn, hg, hmd, hBt, hTt, c, d, s0, s1, s2, s3, s4, s5, s6, s7, RndT_succ]
    have hs : SumT S b v1 r1 n1 := ⟨hb1, hgS, t, q, ht, hBt, hTt⟩
    refine callW (szBytes (8 * n)) (n := n1) (hs.sum.mono rfl (fun x hx => ?_) (by simp; omega) (by simp [ne, ne2, hgl, hB, w1, hn1, hmd1, hg1, h0, h2, hn, hg, hmd, hBt, hTt, c, d, s0, s1, s2, s3, s4, s5, s6, s7])) ⟨rfl, rfl⟩ (by simp [szBytes]) (by simp [szBytes]) (by omega) rfl ?_
    · simp [St.tipTo, show ¬ x = S.nx + 6 + 2 + 1 + 2 + 7 by omega]
    · intro S2 n2 hk2 hS2
      obtain ⟨hb2, hg2, t2, q2, ht2, hBt2, hTt2⟩ := hS2
      simp
      have hj2 : j = (119 - n % 64) % 64 := by omega
      have e : fed v1 (r1 ++ szBytes (8 * n)) = fed v (r ++ tailOf n) := by
        have := fed_app _ v (r ++ (128 :: List.replicate j 0)) (szBytes (8 * n)) (Nat.le_refl _)
        rw [hf] at this
        rw [← this, tailOf, zerosOf, hj2]
        simp
      rw [e] at hBt2
      exact elder_only hb hBt2 (by simp [ltS, SV.lt])
  simp [ne, ne2, hgl, hB, w1, hn1, hmd1, hg1, h0, h2, hn, hg, hmd, hBt, hTt, c]
  have hs : SumT S b v1 r1 n1 := ⟨hb1, hgS, t, q, ht, hBt, hTt⟩
  refine callW [0] (n := n1) (hs.sum.mono rfl (fun x hx => rfl) (by simp) (by simp [ne, ne2, hgl, hB, w1, hn1, hmd1, hg1, h0, h2, hn, hg, hmd, hBt, hTt, c])) ⟨rfl, rfl⟩ (by simp) (by simp) (by omega) rfl ?_
  intro S2 n2 hk2 hS2
  have hnx2 : S.nx ≤ S2.nx := by have := hk2.nx; simp at this; omega
  have hn2 : S2.n = 38 := by have := hk2.n; simpa [hn] using this
  simp [ne, ne2, hgl, hB, w1, hn1, hmd1, hg1, h0, h2, hn, hg, hmd, hBt, hTt, c, hn2]
  have e : fed v (r ++ 128 :: List.replicate (j + 1) 0) = fed v1 (r1 ++ [0]) := by
    have := fed_app _ v (r ++ (128 :: List.replicate j 0)) [0] (Nat.le_refl _)
    rw [hf] at this
    rw [← this, List.replicate_succ']
    simp
  have hl2 := fed_mod _ v1 (r1 ++ [0]) (Nat.le_refl _)
  simp at hl2
  refine ⟨⟨by omega, j + 1, by omega, _, _, e, n2, hS2⟩, ?_⟩
  obtain ⟨_, _, t2, q2, ht2, hBt2, hTt2⟩ := hS2
  unfold wants waits
  simp [hBt, hBt2, hl2]
  omega
end Go.Proofs.YtocjkeieieknbaaDoor
