/- Words of 32 bits. -/
import Derived.Test.YtocjkeieieknbaaDoorFt
set_option linter.unusedVariables false
set_option linter.unusedSimpArgs false
set_option maxRecDepth 100000
namespace Go.Proofs.YtocjkeieieknbaaDoor
open Go.Sh
abbrev W := BitVec 32
/-- A word's number. -/
def wI (w : W) : Int := w.toNat
def wN (w : W) : Nat := w.toNat
abbrev dW (w : W) : D := .v (.int .u32 (wI w))
@[simp] theorem signed_u32 : IntKind.u32.signed = false := (rfl)
@[simp] theorem max_u32 : IntKind.u32.max = 4294967295 := (rfl)
theorem wI_lt (w : W) : 0 ≤ wI w ∧ wI w < 4294967296 := by have := w.isLt; unfold wI; omega
theorem wI_inj {a b : W} : wI a = wI b ↔ a = b := by
  unfold wI
  constructor
  · intro h; apply BitVec.eq_of_toNat_eq; omega
  · rintro rfl; rfl
@[simp] theorem wI_mod (w : W) : (wI w % 4294967296).toNat = wN w := by
  have := wI_lt w
  rw [Int.emod_eq_of_lt this.1 this.2]; simp [wI, wN]
@[simp] theorem w_add (a b : W) : IntKind.u32.wrap (wI a + wI b) = wI (a + b) := by
  rw [IntKind.wrap_u32]; unfold wI; rw [BitVec.toNat_add]; omega
theorem w_in (w : W) : IntKind.u32.wrap ((w.toNat : Nat) : Int) = wI w := by
  rw [IntKind.wrap_u32]; have := w.isLt; unfold wI; omega
@[simp] theorem w_xor (a b : W) : IntKind.u32.wrap ((wN a ^^^ wN b : Nat) : Int) = wI (a ^^^ b) := by unfold wN; rw [← BitVec.toNat_xor, w_in]
@[simp] theorem w_and (a b : W) : IntKind.u32.wrap ((wN a &&& wN b : Nat) : Int) = wI (a &&& b) := by unfold wN; rw [← BitVec.toNat_and, w_in]
@[simp] theorem w_or (a b : W) : IntKind.u32.wrap ((wN a ||| wN b : Nat) : Int) = wI (a ||| b) := by unfold wN; rw [← BitVec.toNat_or, w_in]
@[simp] theorem w_shr (a : W) (n : Nat) : (wI a).fdiv (2 ^ n) = wI (a >>> n) := by
  unfold wI
  rw [BitVec.toNat_ushiftRight, Nat.shiftRight_eq_div_pow, Int.fdiv_eq_ediv_of_nonneg _ (by exact Int.pow_nonneg (by omega))]
  simp
@[simp] theorem w_shl (a : W) (n : Nat) : IntKind.u32.wrap (wI a * 2 ^ n) = wI (a <<< n) := by
  rw [IntKind.wrap_u32]
  unfold wI
  rw [BitVec.toNat_shiftLeft, Nat.shiftLeft_eq]
  simp
@[simp] theorem w_shl24 (a : W) : IntKind.u32.wrap (wI a * 16777216) = wI (a <<< 24) := w_shl a 24
@[simp] theorem w_shl16 (a : W) : IntKind.u32.wrap (wI a * 65536) = wI (a <<< 16) := w_shl a 16
@[simp] theorem w_shl8 (a : W) : IntKind.u32.wrap (wI a * 256) = wI (a <<< 8) := w_shl a 8
@[simp] theorem w_shr3 (a : W) : (wI a).fdiv 8 = wI (a >>> 3) := w_shr a 3
@[simp] theorem w_shr10 (a : W) : (wI a).fdiv 1024 = wI (a >>> 10) := w_shr a 10
theorem p_turn (x : W) (n : Nat) (h : n ≤ 32) : PCall Tryd.prog noGl 39 [dW x, dI n] (dW ((x >>> n) ||| (x <<< (32 - n)))) := by
  have e1 : IntKind.i64.wrap (32 - (n : Int)) = ((32 - n : Nat) : Int) := by rw [wrap64 (by omega) (by omega)]; omega
  have e2 : ¬ ((n : Int) < 0) := by omega
  have e3 : ¬ (((32 - n : Nat) : Int) < 0) := by omega
  have e4 : min n 32 = n := by omega
  have e5 : min (32 - n) 32 = 32 - n := by omega
  refine PCall.by_ (md := []) Tryd.func39 rfl (by kernel_rfl) (n := 13) Tryd.ntmps39 (by simp) (by decide) rfl ?_
  simp [e1, e2, e3, e4, e5]
  exact DrawT.mk (by kernel_rfl)
def rotN (m : Int) : Int := IntKind.u64.wrap (((BitVec.ofInt 64 (IntKind.u64.wrap m) &&& BitVec.ofInt 64 31).toNat : Nat) : Int)
theorem p_rotl (x : W) (m : Int) (n : Nat) (h : n ≤ 32) (hm : rotN m = ((32 - n : Nat) : Int)) : PCall Tryd.prog noGl 40 [dW x, dI m] (dW ((x >>> n) ||| (x <<< (32 - n)))) := by
  have e1 : IntKind.u64.wrap (32 - ((32 - n : Nat) : Int)) = (n : Int) := by rw [IntKind.wrap_u64]; omega
  have e2 : ¬ ((n : Int) < 0) := by omega
  have e3 : ¬ (((32 - n : Nat) : Int) < 0) := by omega
  have e4 : min n 32 = n := by omega
  have e5 : min (32 - n) 32 = 32 - n := by omega
  simp [rotN] at hm
  refine PCall.by_ (md := []) Tryd.func40 rfl (by kernel_rfl) (n := 17) Tryd.ntmps40 (by simp) (by decide) rfl ?_
  simp [hm, e1, e2, e3, e4, e5]
  rw [BitVec.or_comm]
/-- Bytes. -/
abbrev dU (b : UInt8) : D := .v (.int .u8 b.toNat)
abbrev yD (l : List UInt8) : D := .ps (l.map dU) l.length
/-- The word of a byte. -/
def wB (b : UInt8) : W := BitVec.ofNat 32 b.toNat
@[simp] theorem w_ofByte (b : UInt8) : IntKind.u32.wrap ((b.toNat : Nat) : Int) = wI (wB b) := by
  rw [IntKind.wrap_u32]; have := b.toNat_lt; unfold wI wB; rw [BitVec.toNat_ofNat]; omega
@[simp] theorem w_toByte (w : W) : IntKind.u8.wrap (wI w) = ((UInt8.ofNat w.toNat).toNat : Int) := by
  rw [IntKind.wrap_u8]; unfold wI; simp
@[simp] theorem w_not (w : W) : IntKind.u32.wrap ((4294967295 ^^^ wN w : Nat) : Int) = wI (~~~ w) := by
  have : 4294967295 ^^^ wN w = (~~~ w).toNat := by rw [← BitVec.allOnes_xor, BitVec.toNat_xor]; rfl
  rw [this, w_in]
@[simp] theorem w_and15 (w : W) : IntKind.u32.wrap ((wN w &&& 15 : Nat) : Int) = wI (w &&& 15) := by
  have : wN w &&& 15 = (w &&& 15).toNat := by rw [BitVec.toNat_and]; rfl
  rw [this, w_in]
end Go.Proofs.YtocjkeieieknbaaDoor
