/- A text's sum, as the program makes it. -/
import Derived.Test.YtocjkeieieknbaaDoorSf
set_option linter.unusedVariables false
set_option linter.unusedSimpArgs false
set_option maxRecDepth 100000
namespace Go.Proofs.YtocjkeieieknbaaDoor
open Go.Sh
def V0 : V := ⟨0x6a09e667, 0xbb67ae85, 0x3c6ef372, 0xa54ff53a, 0x510e527f, 0x9b05688c, 0x1f83d9ab, 0x5be0cd19⟩
theorem p_newSum : PCall Tryd.prog noGl 21 [] (.agg V0.ds) := by
  refine PCall.by_ (md := []) Tryd.func21 rfl (by kernel_rfl) (n := 3) Tryd.ntmps21 (by simp) (by decide) rfl ?_
  simp
  exact ⟨rfl, rfl, rfl, rfl, rfl, rfl, rfl, rfl⟩
def bytesOf (s : ByteArray) : List UInt8 := s.data.toList
theorem bytesD_eq (s : ByteArray) : bytesD s = (bytesOf s).map dU := rfl
theorem bytesOf_len (s : ByteArray) : (bytesOf s).length = s.size := by simp [bytesOf]
/-- All that is added of a text. -/
def padded (l : List UInt8) : List UInt8 := l ++ tailOf l.length
def sumV (s : ByteArray) : V := (fed V0 (padded (bytesOf s))).1
abbrev hexS : ByteArray := ⟨#[48, 49, 50, 51, 52, 53, 54, 55, 56, 57, 97, 98, 99, 100, 101, 102]⟩
/-- A figure of sixteen. -/
def nib (w : W) (c : Nat) : Nat := w.toNat / c % 16
theorem nib_lt (w : W) (c : Nat) : nib w c < 16 := Nat.mod_lt _ (by omega)
theorem nib_eq (w : W) (c : Nat) : IntKind.u32.wrap ((((wI w).fdiv (c : Int) % 4294967296).toNat &&& 15 : Nat) : Int) = (nib w c : Int) := by
  have h := w.isLt
  have e1 : (wI w).fdiv (c : Int) = ((w.toNat / c : Nat) : Int) := by
    unfold wI
    rw [Int.fdiv_eq_ediv_of_nonneg _ (by omega)]; rfl
  have e2 : w.toNat / c ≤ w.toNat := Nat.div_le_self _ _
  rw [e1]
  unfold nib
  generalize w.toNat / c = q at *
  rw [Int.emod_eq_of_lt (by omega) (by omega), Int.toNat_natCast]
  have e3 : q &&& 15 = q % 16 := Nat.and_two_pow_sub_one_eq_mod _ 4
  rw [e3, IntKind.wrap_u32]
  omega
theorem nib_one (w : W) : wI (w &&& 15#32) = (nib w 1 : Int) := by
  unfold wI nib
  rw [BitVec.toNat_and]
  have e3 : w.toNat &&& 15 = w.toNat % 16 := Nat.and_two_pow_sub_one_eq_mod _ 4
  simp [e3]
/-- A word's eight figures. -/
def figs (w : W) : List Int := [byteI hexS (nib w 268435456), byteI hexS (nib w 16777216), byteI hexS (nib w 1048576), byteI hexS (nib w 65536), byteI hexS (nib w 4096), byteI hexS (nib w 256), byteI hexS (nib w 16), byteI hexS (nib w 1)]
def sumS (v : V) : ByteArray := strOfNums (figs v.a ++ figs v.b)
set_option maxHeartbeats 8000000 in
theorem p_implDocSum (s : ByteArray) (hs : s.size ≤ 70368744177664) : PCall Tryd.prog sumGl 8 [dS s] (dS (sumS (sumV s))) := by
  refine PCall.by_ (md := []) Tryd.func8 rfl (by kernel_rfl) (n := 38) Tryd.ntmps8 (by simp) (by decide) rfl ?_
  simp
  repeat refine ⟨DrawT.mk (by kernel_rfl), ?_⟩
  refine CallT.p0 (p_newSum) (by first | rfl | (simp; done) | (simp; rfl)) ?_
  simp
  have hbl := bytesOf_len s
  obtain ⟨S1, hL, hS1, _⟩ := l_write ((((((((startS sumGl [] 38).adv 1).adv 4).new 3
                  [SV.d (D.v (Value.int IntKind.u32 0)), SV.d (D.v (Value.int IntKind.u32 0)), SV.d (D.v (Value.int IntKind.u32 0)), SV.d (D.v (Value.int IntKind.u32 0)), SV.d (D.v (Value.int IntKind.u32 0)), SV.d (D.v (Value.int IntKind.u32 0)), SV.d (D.v (Value.int IntKind.u32 0)), SV.d (D.v (Value.int IntKind.u32 0)), SV.fl [] 0, SV.d (D.v (Value.int IntKind.u64 0))]).set
              3 [SV.d (dW V0.a), SV.d (dW V0.b), SV.d (dW V0.c), SV.d (dW V0.d), SV.d (dW V0.e), SV.d (dW V0.f), SV.d (dW V0.g), SV.d (dW V0.h), SV.fl [] 0, SV.d (D.v (Value.int IntKind.u64 0))]).adv 3).tipTo 6 s.size 1))
    3 V0 [] 0 (.tp 6 0 (bytesD s) s.size) (bytesOf s) ⟨by simp, rfl, .fl [] 0, by simp, .inl ⟨rfl, rfl⟩⟩ ⟨by simp [rowS, bytesD_eq, hbl], by simp [hbl]⟩ (by omega) (by simp)
  refine CallT.l hL rfl ?_
  have hn1 : S1.n = 38 := by simpa using hL.2.1.n
  have hmd1 : S1.md = [] := by simpa using hL.2.1.md
  have hg1 := hS1.2.1
  simp [hn1, hmd1, hg1]
  simp only [List.nil_append] at hS1
  have hz : IntKind.u64.wrap (0 + IntKind.u64.wrap ((bytesOf s).length : Int)) = (((bytesOf s).length : Nat) : Int) := by rw [IntKind.wrap_u64, IntKind.wrap_u64]; omega
  rw [hz] at hS1
  have hmod := fed_mod _ V0 (bytesOf s) (Nat.le_refl _)
  refine CallT.l (l_finish _ 3 _ _ _ (hS1.mono rfl (fun _ _ => rfl) (by simp) (by simp [hn1, hmd1, hg1])) (by omega) hmod) rfl ?_
  have hv : (fed (fed V0 (bytesOf s)).1 ((fed V0 (bytesOf s)).2 ++ tailOf (bytesOf s).length)).1 = sumV s := by
    unfold sumV padded
    rw [fed_app _ V0 _ _ (Nat.le_refl _)]
  rw [hv]
  generalize sumV s = v
  have d : ∀ k, k ≤ 16 → appBound k 1 1 := fun k hk => by unfold appBound; omega
  have n7 := fun w => nib_eq w 268435456
  have n6 := fun w => nib_eq w 16777216
  have n5 := fun w => nib_eq w 1048576
  have n4 := fun w => nib_eq w 65536
  have n3 := fun w => nib_eq w 4096
  have n2 := fun w => nib_eq w 256
  have n1 := fun w => nib_eq w 16
  simp only [Int.cast_ofNat_Int] at n1 n2 n3 n4 n5 n6 n7
  have hsz : ByteArray.size ⟨#[48, 49, 50, 51, 52, 53, 54, 55, 56, 57, 97, 98, 99, 100, 101, 102]⟩ = 16 := rfl
  have hnl : ∀ w c, (nib w c : Int) < 16 := fun w c => by have := nib_lt w c; omega
  simp [hn1, hmd1, hg1, d, n1, n2, n3, n4, n5, n6, n7, nib_one, hsz, hnl]
  refine LoopT.rounds 3 ?_
  simp [hn1, hmd1, hg1, d, n1, n2, n3, n4, n5, n6, n7, nib_one, hsz, hnl, RndT_succ]
  refine LoopT.rounds 9 ?_
  simp [hn1, hmd1, hg1, d, n1, n2, n3, n4, n5, n6, n7, nib_one, hsz, hnl, RndT_succ]
  refine LoopT.rounds 9 ?_
  simp [hn1, hmd1, hg1, d, n1, n2, n3, n4, n5, n6, n7, nib_one, hsz, hnl, RndT_succ]
  rfl
end Go.Proofs.YtocjkeieieknbaaDoor
