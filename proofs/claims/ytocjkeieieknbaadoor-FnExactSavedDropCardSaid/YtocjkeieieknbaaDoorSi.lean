/- A text's sum, as the model makes it. -/
import Derived.Test.YtocjkeieieknbaaDoorSg
set_option linter.unusedVariables false
set_option linter.unusedSimpArgs false
set_option maxRecDepth 100000
namespace Go.Proofs.YtocjkeieieknbaaDoor
open Go.Sh
theorem szB_i64 (m i : Nat) : IntKind.u8.wrap ((m : Int).fdiv (2 ^ (8 * i))) = ((szB m i).toNat : Int) := szB_u64 m i
set_option maxHeartbeats 8000000 in
theorem p_padded (s : ByteArray) (hs : s.size ≤ 70368744177664) : PCall Tryd.prog noGl 32 [dS s] (yD (padded (bytesOf s))) := by
  have hbl := bytesOf_len s
  have d : ∀ k m, k ≤ 140737488355000 → m ≤ 64 → appBound k m 1 := fun k m hk hm => by unfold appBound; omega
  generalize hl : bytesOf s = l at *
  have hbd : bytesD s = l.map dU := by rw [← hl]; rfl
  have w1 : IntKind.i64.wrap ((s.size : Int) * 8) = ((8 * l.length : Nat) : Int) := by rw [wrap64 (by omega) (by omega)]; omega
  have hd0 := d s.size 1 (by omega) (by omega)
  refine PCall.by_ (md := []) Tryd.func32 rfl (by kernel_rfl) (n := 33) Tryd.ntmps32 (by simp) (by decide) rfl ?_
  simp [w1, hbd, hd0, hbl]
  refine LoopT.round (fun E S => ∃ (j : Nat) (t : Nat), (t < S.nx) ∧ (j ≤ (119 - l.length % 64) % 64) ∧ E 0 = some (.d (dS s)) ∧ E 3 = some (.tp t 0 ((l ++ (128 :: List.replicate j 0)).map dU) (l.length + (j + 1))) ∧ (S.T t = some (l.length + (j + 1), 1))) (fun E S => match E 3 with | some (SV.tp _ _ _ n) => (119 - l.length % 64) % 64 + l.length + 1 - n | _ => 0) ⟨0, 2, by simp [w1, hbd, hbl]⟩ ?_
  rintro E S hk ⟨j, t, ht, hj, h0, h3, hT⟩
  have hn : S.n = 33 := by first | (simpa using hk.n) | (have hh := hk.n; simp [w1, hbd] at hh; exact hh)
  have hg : S.gl = noGl := by first | (simpa using hk.gl) | (have hh := hk.gl; simp [w1, hbd] at hh; exact hh)
  have hmd : S.md = [] := by first | (simpa using hk.md) | (have hh := hk.md; simp [w1, hbd] at hh; exact hh)
  simp [w1, hbd, h0, h3, hn, hg, hmd]
  have hd1 := d (l.length + (j + 1)) 1 (by omega) (by omega)
  refine BrT.dec (fun c => ?_) (fun c => ?_)
  · have c' : (l.length + (j + 1)) % 64 = 56 := by
      have := c
      rw [Int.tmod_eq_emod_of_nonneg (by omega)] at this
      omega
    have hj2 : j = (119 - l.length % 64) % 64 := by omega
    have hd2 : ∀ k, k ≤ 8 → appBound (l.length + (j + 1) + k) 1 1 := fun k hk => d _ 1 (by omega) (by omega)
    have s7 := szB_u64 (8 * l.length) 7
    have s6 := szB_u64 (8 * l.length) 6
    have s5 := szB_u64 (8 * l.length) 5
    have s4 := szB_u64 (8 * l.length) 4
    have s3 := szB_u64 (8 * l.length) 3
    have s2 := szB_u64 (8 * l.length) 2
    have s1 := szB_u64 (8 * l.length) 1
    have s0 := szB_u64 (8 * l.length) 0
    simp at s0 s1 s2 s3 s4 s5 s6 s7
    simp [w1, hbd, h0, h3, hn, hg, hmd, hT, c, s0, s1, s2, s3, s4, s5, s6, s7, hd1, hd2]
    refine LoopT.rounds 9 ?_
    simp [w1, hbd, h0, h3, hn, hg, hmd, hT, c, s0, s1, s2, s3, s4, s5, s6, s7, hd1, hd2, RndT_succ]
    refine ⟨by omega, ⟨by omega, d _ 1 (by omega) (by omega)⟩, ⟨by omega, d _ 1 (by omega) (by omega)⟩, ⟨by omega, d _ 1 (by omega) (by omega)⟩, ⟨by omega, d _ 1 (by omega) (by omega)⟩, ⟨by omega, d _ 1 (by omega) (by omega)⟩, ⟨by omega, d _ 1 (by omega) (by omega)⟩, ?_⟩
    rw [padded, tailOf, zerosOf, ← hj2]
    simp [szBytes]
    omega
  · have c' : ¬ (l.length + (j + 1)) % 64 = 56 := by
      intro h
      refine c ?_
      rw [Int.tmod_eq_emod_of_nonneg (by omega)]
      omega
    simp [w1, hbd, h0, h3, hn, hg, hmd, hT, c, hd1]
    refine ⟨⟨j + 1, t, by omega, by omega, ⟨rfl, by simp [List.replicate_succ'], by omega⟩, by simp; omega⟩, by omega⟩

/-- A word's four bytes. -/
def wby (w : W) : List Int := [IntKind.u8.wrap ((wI w).fdiv 16777216), IntKind.u8.wrap ((wI w).fdiv 65536), IntKind.u8.wrap ((wI w).fdiv 256), (w.toNat : Int) % 256]
def sumBytes (v : V) : ByteArray := strOfNums (wby v.a ++ wby v.b ++ wby v.c ++ wby v.d ++ wby v.e ++ wby v.f ++ wby v.g ++ wby v.h)
theorem padded_mod (l : List UInt8) : (padded l).length % 64 = 0 := by
  simp [padded, tailOf, zerosOf, szBytes]; omega
theorem padded_len (l : List UInt8) : (padded l).length ≤ l.length + 128 := by
  simp [padded, tailOf, zerosOf, szBytes]; omega
set_option maxHeartbeats 8000000 in
theorem p_sum (s : ByteArray) (hs : s.size ≤ 70368744177664) : PCall Tryd.prog noGl 20 [dS s] (dS (sumBytes (sumV s))) := by
  have hbl := bytesOf_len s
  have hm := padded_mod (bytesOf s)
  have hpl := padded_len (bytesOf s)
  have hpad := p_padded s hs
  unfold sumV
  generalize hl : padded (bytesOf s) = l at *
  refine PCall.by_ (md := []) Tryd.func20 rfl (by kernel_rfl) (n := 57) Tryd.ntmps20 (by simp) (by decide) rfl ?_
  simp
  repeat refine ⟨DrawT.mk (by kernel_rfl), ?_⟩
  refine CallT.p0 (hpad) (by first | rfl | (simp; done) | (simp; rfl)) ?_
  simp
  refine LoopT.round (fun E S => ∃ (i : Nat) (v : V) (X : SV), (i ≤ l.length) ∧ (i % 64 = 0) ∧ E 3 = some (X) ∧ (X = .fl v.ds 8 ∨ X = .d (.ps v.ds 8)) ∧ E 4 = some (.d (yD l)) ∧ E 5 = some (.d (dI i)) ∧ (fed V0 l = fed v (l.drop i))) (upTo 5 l.length) ⟨0, V0, .fl V0.ds 8, by simp; exact ⟨rfl, rfl, rfl, rfl, rfl, rfl, rfl, rfl⟩⟩ ?_
  rintro E S hk ⟨i, v, X, hi, hi64, h3, hX, h4, h5, hf⟩
  have hn : S.n = 57 := by first | (simpa using hk.n) | (have hh := hk.n; simp at hh; exact hh)
  have hg : S.gl = noGl := by first | (simpa using hk.gl) | (have hh := hk.gl; simp at hh; exact hh)
  have hmd : S.md = [] := by first | (simpa using hk.md) | (have hh := hk.md; simp at hh; exact hh)
  simp [h3, h4, h5, hn, hg, hmd]
  refine BrT.dec (fun c => ?_) (fun c => ?_)
  · have c1 : i + 64 ≤ l.length := by omega
    have w := wrap64 (n := (i : Int) + 64) (by omega) (by omega)
    have t1 : ((i : Int) + 64).toNat = i + 64 := by omega
    have t2 : (0 : Int) ≤ i + 64 := by omega
    have t3 : (i : Int) ≤ i + 64 := by omega
    have t4 : (i : Int) + 64 ≤ l.length := by omega
    simp [h3, h4, h5, hn, hg, hmd, c, w, t1, t2, t3, t4]
    have ed : D.ps (List.take 64 (List.drop i (List.map dU l))) 64 = yD ((l.drop i).take 64) := by simp [List.map_take, List.map_drop]; omega
    rw [ed]
    refine CallT.p0 (p_block v ((l.drop i).take 64) (by simp; omega)) (by rcases hX with rfl | rfl <;> rfl) ?_
    simp [h3, h4, h5, hn, hg, hmd, c, w, t1, t2, t3, t4]
    refine ⟨⟨i + 64, by omega, by omega, blk v ((l.drop i).take 64), by simp, by simp, ?_⟩, ?_⟩
    · rw [hf, fed_step (by simp; omega), List.drop_drop]
    · unfold upTo
      simp [h5]
      omega
  · have hi3 : i = l.length := by omega
    subst hi3
    rw [List.drop_eq_nil_of_le (by omega), fed_short (l := []) (by simp)] at hf
    rw [hf]
    have d : ∀ k m, k ≤ 64 → m ≤ 64 → appBound k m 1 := fun k m hk hm => by unfold appBound; omega
    rcases hX with rfl | rfl
    all_goals
      simp [h3, h4, h5, hn, hg, hmd, c, d]
      refine LoopT.rounds 9 ?_
      simp [h3, h4, h5, hn, hg, hmd, c, d, RndT_succ]
      repeat refine ⟨DrawT.mk (by kernel_rfl), ?_⟩
      rfl

/-- Byte j of a text. -/
def bq (s : ByteArray) (j : Nat) : Nat := (s.data.toList.getD j 0).toNat
theorem bq_lt (s : ByteArray) (j : Nat) : bq s j < 256 := UInt8.toNat_lt _
/-- Two figures for each of the first n bytes. -/
def figL (s : ByteArray) : Nat → List Int
  | 0 => []
  | n + 1 => figL s n ++ [byteI hexS (bq s n / 16), byteI hexS (bq s n % 16)]
@[simp] theorem figL_len (s : ByteArray) : ∀ n, (figL s n).length = n * 2
  | 0 => rfl
  | n + 1 => by simp [figL, figL_len s n]; omega
def dYs (l : List Int) : List D := l.map fun n => .v (.int .u8 n)
theorem numsOf_map : ∀ l : List Int, numsOf (l.map fun n => D.v (.int .u8 n)) = some l
  | [] => rfl
  | n :: r => by simp [numsOf_map r]
set_option maxHeartbeats 8000000 in
theorem p_figures (s : ByteArray) (hs : s.size ≤ 70368744177664) : PCall Tryd.prog noGl 19 [dS s] (dS (strOfNums (figL s s.size))) := by
  refine PCall.by_ (md := []) Tryd.func19 rfl (by kernel_rfl) (n := 30) Tryd.ntmps19 (by simp) (by decide) rfl ?_
  simp
  refine LoopT.round (fun E S => ∃ (i : Nat) (R : SV), (i ≤ s.size) ∧ E 0 = some (.d (dS s)) ∧ E 3 = some (.d (dS hexS)) ∧ E 4 = some (R) ∧ E 5 = some (.d (dI i)) ∧ ((i = 0 ∧ R = .fl [] 0) ∨ ∃ t, t < S.nx ∧ R = .tp t 0 (dYs (figL s i)) (i * 2) ∧ S.T t = some (i * 2, 1))) (upTo 5 s.size) ⟨0, .fl [] 0, by simp⟩ ?_
  rintro E S hk ⟨i, R, hi, h0, h3, h4, h5, hR⟩
  have hn : S.n = 30 := by first | (simpa using hk.n) | (have hh := hk.n; simp at hh; exact hh)
  have hg : S.gl = noGl := by first | (simpa using hk.gl) | (have hh := hk.gl; simp at hh; exact hh)
  have hmd : S.md = [] := by first | (simpa using hk.md) | (have hh := hk.md; simp at hh; exact hh)
  simp [h0, h3, h4, h5, hn, hg, hmd]
  have w := wrap64 (n := (i : Int) + 1) (by omega) (by omega)
  refine BrT.dec (fun c => ?_) (fun c => ?_)
  · have c1 : i < s.size := by omega
    have hq := bq_lt s i
    have hb : byteI s i = (bq s i : Int) := rfl
    have w1 : IntKind.u8.wrap ((bq s i : Int) / 16) = (bq s i : Int) / 16 := by rw [IntKind.wrap_u8]; omega
    have w2 : (bq s i : Int).tmod 16 = (bq s i : Int) % 16 := Int.tmod_eq_emod_of_nonneg (by omega)
    have t1 : ((bq s i : Int) / 16).toNat = bq s i / 16 := by omega
    have t2 : ((bq s i : Int) % 16).toNat = bq s i % 16 := by omega
    have g3 : 0 ≤ (bq s i : Int) / 16 := by omega
    have g4 : 0 ≤ (bq s i : Int) % 16 := by omega
    have hsz : ByteArray.size ⟨#[48, 49, 50, 51, 52, 53, 54, 55, 56, 57, 97, 98, 99, 100, 101, 102]⟩ = 16 := rfl
    have d : appBound (i * 2) 2 1 := by unfold appBound; omega
    have g1 : (bq s i : Int) / 16 < 16 := by omega
    have g2 : (bq s i : Int) % 16 < 16 := by omega
    have hlen : (dYs (figL s i)).length = i * 2 := by simp [dYs]
    rcases hR with ⟨rfl, rfl⟩ | ⟨t, ht, rfl, hT⟩
    · have d0 : appBound 0 2 1 := by decide
      simp only [Nat.zero_mul] at d
      simp [h0, h3, h4, h5, hn, hg, hmd, c, w, c1, hb, w1, w2, t1, t2, hsz, g1, g2, g3, g4, d0]
      exact ⟨DrawT.mk (by kernel_rfl), ⟨1, by omega, rfl, S.nx + 4 + 14, by omega, ⟨rfl, by simp [figL, dYs], rfl⟩, by simp⟩, upTo_lt h5 (by simp) c1⟩
    · simp [h0, h3, h4, h5, hn, hg, hmd, c, w, c1, hb, w1, w2, t1, t2, hsz, g1, g2, g3, g4, hT, d, hlen]
      exact ⟨DrawT.mk (by kernel_rfl), ⟨i + 1, by omega, rfl, t, by omega, ⟨rfl, by simp [figL, dYs], by omega⟩, by simp; omega⟩, upTo_lt h5 (by simp) c1⟩
  · have hi3 : i = s.size := by omega
    rcases hR with ⟨rfl, rfl⟩ | ⟨t, ht, rfl, hT⟩
    · simp [h0, h3, h4, h5, hn, hg, hmd, c, ← hi3, figL]
    · simp [h0, h3, h4, h5, hn, hg, hmd, c, dYs, numsOf_map, ← hi3]
theorem strOf_take (xs : List Int) (n : Nat) : (strOfNums xs).extract 0 n = strOfNums (xs.take n) := by
  unfold strOfNums
  apply ByteArray.ext
  rw [ByteArray.data_extract]
  apply Array.ext'
  simp
theorem figL_take (s : ByteArray) : ∀ k, (figL s (8 + k)).take 16 = figL s 8
  | 0 => List.take_of_length_le (by simp)
  | k + 1 => by
    rw [← Nat.add_assoc, figL, List.take_append_of_le_length (by simp; omega), figL_take s k]
theorem by_num (w : W) (c : Nat) : IntKind.u8.wrap ((wI w).fdiv (c : Int)) = ((w.toNat / c % 256 : Nat) : Int) := by
  unfold wI
  rw [Int.fdiv_eq_ediv_of_nonneg _ (by omega), IntKind.wrap_u8]
  simp
theorem ofN {n : Nat} (h : n < 256) : (UInt8.ofNat ((n : Int).toNat)).toNat = n := by simp; omega
theorem bq_strOf {xs : List Int} {j : Nat} {x : Int} (h : xs[j]? = some x) : bq (strOfNums xs) j = (UInt8.ofNat x.toNat).toNat := by
  unfold bq
  rw [strOfNums_data, List.getD_eq_getElem?_getD, List.getElem?_map, h]; rfl
theorem figs_eq (v : V) : strOfNums ((figL (sumBytes v) 32).take 16) = sumS v := by
  have e : (figL (sumBytes v) 32).take 16 = figL (sumBytes v) 8 := figL_take _ 24
  rw [e]
  refine congrArg strOfNums ?_
  have b7 := fun w => by_num w 16777216
  have b6 := fun w => by_num w 65536
  have b5 := fun w => by_num w 256
  simp only [Int.cast_ofNat_Int] at b5 b6 b7
  have b4 : ∀ w : W, (w.toNat : Int) % 256 = ((w.toNat % 256 : Nat) : Int) := fun w => by omega
  have h : ∀ n, n % 256 < 256 := fun n => Nat.mod_lt _ (by omega)
  have q0 : bq (sumBytes v) 0 = v.a.toNat / 16777216 % 256 := by rw [sumBytes, bq_strOf (x := _) (by simp only [wby, List.cons_append, List.nil_append]; rfl), b7, ofN (h _)]
  have q1 : bq (sumBytes v) 1 = v.a.toNat / 65536 % 256 := by rw [sumBytes, bq_strOf (x := _) (by simp only [wby, List.cons_append, List.nil_append]; rfl), b6, ofN (h _)]
  have q2 : bq (sumBytes v) 2 = v.a.toNat / 256 % 256 := by rw [sumBytes, bq_strOf (x := _) (by simp only [wby, List.cons_append, List.nil_append]; rfl), b5, ofN (h _)]
  have q3 : bq (sumBytes v) 3 = v.a.toNat % 256 := by rw [sumBytes, bq_strOf (x := _) (by simp only [wby, List.cons_append, List.nil_append]; rfl), b4, ofN (h _)]
  have q4 : bq (sumBytes v) 4 = v.b.toNat / 16777216 % 256 := by rw [sumBytes, bq_strOf (x := _) (by simp only [wby, List.cons_append, List.nil_append]; rfl), b7, ofN (h _)]
  have q5 : bq (sumBytes v) 5 = v.b.toNat / 65536 % 256 := by rw [sumBytes, bq_strOf (x := _) (by simp only [wby, List.cons_append, List.nil_append]; rfl), b6, ofN (h _)]
  have q6 : bq (sumBytes v) 6 = v.b.toNat / 256 % 256 := by rw [sumBytes, bq_strOf (x := _) (by simp only [wby, List.cons_append, List.nil_append]; rfl), b5, ofN (h _)]
  have q7 : bq (sumBytes v) 7 = v.b.toNat % 256 := by rw [sumBytes, bq_strOf (x := _) (by simp only [wby, List.cons_append, List.nil_append]; rfl), b4, ofN (h _)]
  have la := v.a.isLt
  have lb := v.b.isLt
  simp only [figL, q0, q1, q2, q3, q4, q5, q6, q7, figs, nib, List.nil_append, List.cons_append]
  have r1 : ∀ n, n < 2 ^ 32 → n / 16777216 % 256 / 16 = n / 268435456 % 16 := fun n hn => by omega
  have r2 : ∀ n, n / 16777216 % 256 % 16 = n / 16777216 % 16 := fun n => by omega
  have r3 : ∀ n, n / 65536 % 256 / 16 = n / 1048576 % 16 := fun n => by omega
  have r4 : ∀ n, n / 65536 % 256 % 16 = n / 65536 % 16 := fun n => by omega
  have r5 : ∀ n, n / 256 % 256 / 16 = n / 4096 % 16 := fun n => by omega
  have r6 : ∀ n, n / 256 % 256 % 16 = n / 256 % 16 := fun n => by omega
  have r7 : ∀ n, n % 256 / 16 = n / 16 % 16 := fun n => by omega
  have r8 : ∀ n, n % 256 % 16 = n % 16 := fun n => by omega
  simp only [r1 _ la, r1 _ lb, r2, r3, r4, r5, r6, r7, r8, Nat.div_one]
theorem p_specDocSum (s : ByteArray) (hs : s.size ≤ 70368744177664) : PCall Tryd.prog noGl 7 [dS s] (dS (sumS (sumV s))) := by
  have hz : (sumBytes (sumV s)).size = 32 := strOfNums_size _
  have hf := p_figures (sumBytes (sumV s)) (by omega)
  rw [hz] at hf
  have hz2 : (strOfNums (figL (sumBytes (sumV s)) 32)).size = 64 := by rw [strOfNums_size]; simp
  refine PCall.by_ (md := []) Tryd.func7 rfl (by kernel_rfl) (n := 7) Tryd.ntmps7 (by simp) (by decide) rfl ?_
  simp
  repeat refine ⟨DrawT.mk (by kernel_rfl), ?_⟩
  refine CallT.p0 (p_sum s hs) (by first | rfl | (simp; done) | (simp; rfl)) ?_
  simp
  repeat refine ⟨DrawT.mk (by kernel_rfl), ?_⟩
  refine CallT.p0 (hf) (by first | rfl | (simp; done) | (simp; rfl)) ?_
  simp
  simp [hz2, strOf_take, figs_eq]
end Go.Proofs.YtocjkeieieknbaaDoor
