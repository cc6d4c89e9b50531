/- The facts of the program's types, as the shadow asks for them. -/
import Derived.Test.YtocjkeieieknbaaDoorShO
import Derived.Test.YtocjkeieieknbaaDoorProg
set_option linter.unusedVariables false
set_option linter.unusedSimpArgs false
set_option maxRecDepth 100000
namespace Go.Proofs.YtocjkeieieknbaaDoor
open Go.Sh
@[simp] theorem szOf_3 : szOf Tryd.prog 3 = some (1) := by kernel_rfl
@[simp] theorem known_3 : known Tryd.prog 3 = true := by kernel_rfl
@[simp] theorem isString_3 : isString Tryd.prog 3 = false := by kernel_rfl
@[simp] theorem isSlice_3 : isSlice Tryd.prog 3 = false := by kernel_rfl
@[simp] theorem isIface_3 : isIface Tryd.prog 3 = some (false) := by kernel_rfl
@[simp] theorem concrete_3 : concrete Tryd.prog 3 = true := by kernel_rfl
@[simp] theorem bytesOf_3 : bytesOf Tryd.prog 3 = none := by kernel_rfl
@[simp] theorem zeroCellsOf_3 : zeroCellsOf Tryd.prog 3 = some [.d (.v (.int .i64 0))] := by kernel_rfl
@[simp] theorem zeroS_3 : zeroS Tryd.prog 3 = some (.d (.v (.int .i64 0))) := by kernel_rfl
@[simp] theorem intKindOf_3 : intKindOf Tryd.prog 3 = some .i64 := by kernel_rfl
@[simp] theorem loadG_3 {α : Type} (mk : List α → α) (cs : List α) (off : Nat) : loadG mk Tryd.prog 3 cs off = cs[off]? := by kernel_rfl
@[simp] theorem szOf_4 : szOf Tryd.prog 4 = some (1) := by kernel_rfl
@[simp] theorem known_4 : known Tryd.prog 4 = true := by kernel_rfl
@[simp] theorem isString_4 : isString Tryd.prog 4 = false := by kernel_rfl
@[simp] theorem isSlice_4 : isSlice Tryd.prog 4 = false := by kernel_rfl
@[simp] theorem isIface_4 : isIface Tryd.prog 4 = some (false) := by kernel_rfl
@[simp] theorem concrete_4 : concrete Tryd.prog 4 = true := by kernel_rfl
@[simp] theorem bytesOf_4 : bytesOf Tryd.prog 4 = none := by kernel_rfl
@[simp] theorem zeroCellsOf_4 : zeroCellsOf Tryd.prog 4 = some [.d (.v (.bool false))] := by kernel_rfl
@[simp] theorem zeroS_4 : zeroS Tryd.prog 4 = some (.d (.v (.bool false))) := by kernel_rfl
@[simp] theorem boolEq_4 (a b : Bool) : binS Tryd.prog .eql 4 (.bool a) (.bool b) = some (.bool (a == b)) := by kernel_rfl
@[simp] theorem boolNe_4 (a b : Bool) : binS Tryd.prog .neq 4 (.bool a) (.bool b) = some (.bool (!(a == b))) := by kernel_rfl
@[simp] theorem loadG_4 {α : Type} (mk : List α → α) (cs : List α) (off : Nat) : loadG mk Tryd.prog 4 cs off = cs[off]? := by kernel_rfl
@[simp] theorem szOf_5 : szOf Tryd.prog 5 = some (1) := by kernel_rfl
@[simp] theorem known_5 : known Tryd.prog 5 = true := by kernel_rfl
@[simp] theorem isString_5 : isString Tryd.prog 5 = false := by kernel_rfl
@[simp] theorem isSlice_5 : isSlice Tryd.prog 5 = false := by kernel_rfl
@[simp] theorem isIface_5 : isIface Tryd.prog 5 = some (false) := by kernel_rfl
@[simp] theorem concrete_5 : concrete Tryd.prog 5 = true := by kernel_rfl
@[simp] theorem bytesOf_5 : bytesOf Tryd.prog 5 = none := by kernel_rfl
@[simp] theorem zeroCellsOf_5 : zeroCellsOf Tryd.prog 5 = some [.d (.v (.int .u8 0))] := by kernel_rfl
@[simp] theorem zeroS_5 : zeroS Tryd.prog 5 = some (.d (.v (.int .u8 0))) := by kernel_rfl
@[simp] theorem intKindOf_5 : intKindOf Tryd.prog 5 = some .u8 := by kernel_rfl
@[simp] theorem loadG_5 {α : Type} (mk : List α → α) (cs : List α) (off : Nat) : loadG mk Tryd.prog 5 cs off = cs[off]? := by kernel_rfl
@[simp] theorem szOf_9 : szOf Tryd.prog 9 = some (1) := by kernel_rfl
@[simp] theorem known_9 : known Tryd.prog 9 = true := by kernel_rfl
@[simp] theorem isString_9 : isString Tryd.prog 9 = true := by kernel_rfl
@[simp] theorem isSlice_9 : isSlice Tryd.prog 9 = false := by kernel_rfl
@[simp] theorem isIface_9 : isIface Tryd.prog 9 = some (false) := by kernel_rfl
@[simp] theorem concrete_9 : concrete Tryd.prog 9 = true := by kernel_rfl
@[simp] theorem bytesOf_9 : bytesOf Tryd.prog 9 = none := by kernel_rfl
@[simp] theorem zeroCellsOf_9 : zeroCellsOf Tryd.prog 9 = some [.d (.v (.string ⟨#[]⟩))] := by kernel_rfl
@[simp] theorem zeroS_9 : zeroS Tryd.prog 9 = some (.d (.v (.string ⟨#[]⟩))) := by kernel_rfl
@[simp] theorem loadG_9 {α : Type} (mk : List α → α) (cs : List α) (off : Nat) : loadG mk Tryd.prog 9 cs off = cs[off]? := by kernel_rfl
@[simp] theorem szOf_24 : szOf Tryd.prog 24 = some (1) := by kernel_rfl
@[simp] theorem known_24 : known Tryd.prog 24 = true := by kernel_rfl
@[simp] theorem isString_24 : isString Tryd.prog 24 = false := by kernel_rfl
@[simp] theorem isSlice_24 : isSlice Tryd.prog 24 = true := by kernel_rfl
@[simp] theorem isIface_24 : isIface Tryd.prog 24 = some (false) := by kernel_rfl
@[simp] theorem concrete_24 : concrete Tryd.prog 24 = true := by kernel_rfl
@[simp] theorem bytesOf_24 : bytesOf Tryd.prog 24 = some (5) := by kernel_rfl
@[simp] theorem zeroCellsOf_24 : zeroCellsOf Tryd.prog 24 = some [.fl [] 0] := by kernel_rfl
@[simp] theorem zeroS_24 : zeroS Tryd.prog 24 = some (.fl [] 0) := by kernel_rfl
@[simp] theorem elemOf_24 : Sh.elemOf Tryd.prog 24 = some (5, 1) := by kernel_rfl
@[simp] theorem appOf_24 : appOf Tryd.prog 24 = some (5, 1, 1) := by kernel_rfl
@[simp] theorem makeOf_24 : makeOf Tryd.prog 24 = some ([.d (.v (.int .u8 0))], 1, 1) := by kernel_rfl
@[simp] theorem zerosOf_24 : zerosOf Tryd.prog 24 = some ([.v (.int .u8 0)], 1) := by kernel_rfl
@[simp] theorem loadG_24 {α : Type} (mk : List α → α) (cs : List α) (off : Nat) : loadG mk Tryd.prog 24 cs off = cs[off]? := by kernel_rfl
@[simp] theorem szOf_27 : szOf Tryd.prog 27 = some (1) := by kernel_rfl
@[simp] theorem known_27 : known Tryd.prog 27 = true := by kernel_rfl
@[simp] theorem isString_27 : isString Tryd.prog 27 = false := by kernel_rfl
@[simp] theorem isSlice_27 : isSlice Tryd.prog 27 = true := by kernel_rfl
@[simp] theorem isIface_27 : isIface Tryd.prog 27 = some (false) := by kernel_rfl
@[simp] theorem concrete_27 : concrete Tryd.prog 27 = true := by kernel_rfl
@[simp] theorem bytesOf_27 : bytesOf Tryd.prog 27 = none := by kernel_rfl
@[simp] theorem zeroCellsOf_27 : zeroCellsOf Tryd.prog 27 = some [.fl [] 0] := by kernel_rfl
@[simp] theorem zeroS_27 : zeroS Tryd.prog 27 = some (.fl [] 0) := by kernel_rfl
@[simp] theorem elemOf_27 : Sh.elemOf Tryd.prog 27 = some (9, 1) := by kernel_rfl
@[simp] theorem appOf_27 : appOf Tryd.prog 27 = some (9, 1, 16) := by kernel_rfl
@[simp] theorem makeOf_27 : makeOf Tryd.prog 27 = some ([.d (.v (.string ⟨#[]⟩))], 1, 16) := by kernel_rfl
@[simp] theorem zerosOf_27 : zerosOf Tryd.prog 27 = some ([.v (.string ⟨#[]⟩)], 1) := by kernel_rfl
@[simp] theorem loadG_27 {α : Type} (mk : List α → α) (cs : List α) (off : Nat) : loadG mk Tryd.prog 27 cs off = cs[off]? := by kernel_rfl
@[simp] theorem szOf_29 : szOf Tryd.prog 29 = some (1) := by kernel_rfl
@[simp] theorem known_29 : known Tryd.prog 29 = true := by kernel_rfl
@[simp] theorem isString_29 : isString Tryd.prog 29 = false := by kernel_rfl
@[simp] theorem isSlice_29 : isSlice Tryd.prog 29 = false := by kernel_rfl
@[simp] theorem isIface_29 : isIface Tryd.prog 29 = some (false) := by kernel_rfl
@[simp] theorem concrete_29 : concrete Tryd.prog 29 = true := by kernel_rfl
@[simp] theorem bytesOf_29 : bytesOf Tryd.prog 29 = none := by kernel_rfl
@[simp] theorem zeroCellsOf_29 : zeroCellsOf Tryd.prog 29 = some [.fl [] 0] := by kernel_rfl
@[simp] theorem zeroS_29 : zeroS Tryd.prog 29 = some (.ag [.fl [] 0]) := by kernel_rfl
@[simp] theorem fieldOf0_29 : fieldOf Tryd.prog 29 0 = some 0 := by kernel_rfl
@[simp] theorem fieldTy0_29 : fieldTy Tryd.prog 29 0 = some (27, 0) := by kernel_rfl
@[simp] theorem placeOf0_29 : placeOf Tryd.prog 29 0 = some (0, 1) := by kernel_rfl
@[simp] theorem sized_29 : sized Tryd.prog 29 = true := by kernel_rfl
@[simp] theorem loadG_29 {α : Type} (mk : List α → α) (cs : List α) (off : Nat) : loadG mk Tryd.prog 29 cs off = if off + 1 ≤ cs.length then some (mk ((cs.drop off).take 1)) else none := by kernel_rfl
@[simp] theorem szOf_33 : szOf Tryd.prog 33 = some (1) := by kernel_rfl
@[simp] theorem known_33 : known Tryd.prog 33 = true := by kernel_rfl
@[simp] theorem isString_33 : isString Tryd.prog 33 = false := by kernel_rfl
@[simp] theorem isSlice_33 : isSlice Tryd.prog 33 = false := by kernel_rfl
@[simp] theorem isIface_33 : isIface Tryd.prog 33 = some (false) := by kernel_rfl
@[simp] theorem concrete_33 : concrete Tryd.prog 33 = true := by kernel_rfl
@[simp] theorem bytesOf_33 : bytesOf Tryd.prog 33 = none := by kernel_rfl
@[simp] theorem zeroCellsOf_33 : zeroCellsOf Tryd.prog 33 = some [.fl [] 0] := by kernel_rfl
@[simp] theorem zeroS_33 : zeroS Tryd.prog 33 = some (.ag [.fl [] 0]) := by kernel_rfl
@[simp] theorem fieldOf0_33 : fieldOf Tryd.prog 33 0 = some 0 := by kernel_rfl
@[simp] theorem fieldTy0_33 : fieldTy Tryd.prog 33 0 = some (27, 0) := by kernel_rfl
@[simp] theorem placeOf0_33 : placeOf Tryd.prog 33 0 = some (0, 1) := by kernel_rfl
@[simp] theorem sized_33 : sized Tryd.prog 33 = true := by kernel_rfl
@[simp] theorem loadG_33 {α : Type} (mk : List α → α) (cs : List α) (off : Nat) : loadG mk Tryd.prog 33 cs off = if off + 1 ≤ cs.length then some (mk ((cs.drop off).take 1)) else none := by kernel_rfl
@[simp] theorem szOf_40 : szOf Tryd.prog 40 = some (1) := by kernel_rfl
@[simp] theorem known_40 : known Tryd.prog 40 = true := by kernel_rfl
@[simp] theorem isString_40 : isString Tryd.prog 40 = false := by kernel_rfl
@[simp] theorem isSlice_40 : isSlice Tryd.prog 40 = false := by kernel_rfl
@[simp] theorem isIface_40 : isIface Tryd.prog 40 = some (false) := by kernel_rfl
@[simp] theorem concrete_40 : concrete Tryd.prog 40 = true := by kernel_rfl
@[simp] theorem bytesOf_40 : bytesOf Tryd.prog 40 = none := by kernel_rfl
@[simp] theorem zeroCellsOf_40 : zeroCellsOf Tryd.prog 40 = some [.d (.v (.int .u32 0))] := by kernel_rfl
@[simp] theorem zeroS_40 : zeroS Tryd.prog 40 = some (.d (.v (.int .u32 0))) := by kernel_rfl
@[simp] theorem intKindOf_40 : intKindOf Tryd.prog 40 = some .u32 := by kernel_rfl
@[simp] theorem loadG_40 {α : Type} (mk : List α → α) (cs : List α) (off : Nat) : loadG mk Tryd.prog 40 cs off = cs[off]? := by kernel_rfl
@[simp] theorem szOf_41 : szOf Tryd.prog 41 = some (8) := by kernel_rfl
@[simp] theorem known_41 : known Tryd.prog 41 = true := by kernel_rfl
@[simp] theorem isString_41 : isString Tryd.prog 41 = false := by kernel_rfl
@[simp] theorem isSlice_41 : isSlice Tryd.prog 41 = false := by kernel_rfl
@[simp] theorem isIface_41 : isIface Tryd.prog 41 = some (false) := by kernel_rfl
@[simp] theorem concrete_41 : concrete Tryd.prog 41 = true := by kernel_rfl
@[simp] theorem bytesOf_41 : bytesOf Tryd.prog 41 = none := by kernel_rfl
@[simp] theorem zeroCellsOf_41 : zeroCellsOf Tryd.prog 41 = some [.d (.v (.int .u32 0)), .d (.v (.int .u32 0)), .d (.v (.int .u32 0)), .d (.v (.int .u32 0)), .d (.v (.int .u32 0)), .d (.v (.int .u32 0)), .d (.v (.int .u32 0)), .d (.v (.int .u32 0))] := by kernel_rfl
@[simp] theorem zeroS_41 : zeroS Tryd.prog 41 = some (.ag [.d (.v (.int .u32 0)), .d (.v (.int .u32 0)), .d (.v (.int .u32 0)), .d (.v (.int .u32 0)), .d (.v (.int .u32 0)), .d (.v (.int .u32 0)), .d (.v (.int .u32 0)), .d (.v (.int .u32 0))]) := by kernel_rfl
@[simp] theorem arrayOf_41 : arrayOf Tryd.prog 41 = some (8, 1) := by kernel_rfl
@[simp] theorem sized_41 : sized Tryd.prog 41 = true := by kernel_rfl
@[simp] theorem placeOf_41 (i : Nat) : placeOf Tryd.prog 41 i = some (i * 1, 1) := by kernel_rfl
@[simp] theorem loadG_41 {α : Type} (mk : List α → α) (cs : List α) (off : Nat) : loadG mk Tryd.prog 41 cs off = if off + 8 ≤ cs.length then some (mk ((cs.drop off).take 8)) else none := by kernel_rfl
@[simp] theorem szOf_43 : szOf Tryd.prog 43 = some (8) := by kernel_rfl
@[simp] theorem known_43 : known Tryd.prog 43 = true := by kernel_rfl
@[simp] theorem isString_43 : isString Tryd.prog 43 = false := by kernel_rfl
@[simp] theorem isSlice_43 : isSlice Tryd.prog 43 = false := by kernel_rfl
@[simp] theorem isIface_43 : isIface Tryd.prog 43 = some (false) := by kernel_rfl
@[simp] theorem concrete_43 : concrete Tryd.prog 43 = true := by kernel_rfl
@[simp] theorem bytesOf_43 : bytesOf Tryd.prog 43 = none := by kernel_rfl
@[simp] theorem zeroCellsOf_43 : zeroCellsOf Tryd.prog 43 = some [.d (.v (.int .u32 0)), .d (.v (.int .u32 0)), .d (.v (.int .u32 0)), .d (.v (.int .u32 0)), .d (.v (.int .u32 0)), .d (.v (.int .u32 0)), .d (.v (.int .u32 0)), .d (.v (.int .u32 0))] := by kernel_rfl
@[simp] theorem zeroS_43 : zeroS Tryd.prog 43 = some (.ag [.d (.v (.int .u32 0)), .d (.v (.int .u32 0)), .d (.v (.int .u32 0)), .d (.v (.int .u32 0)), .d (.v (.int .u32 0)), .d (.v (.int .u32 0)), .d (.v (.int .u32 0)), .d (.v (.int .u32 0))]) := by kernel_rfl
@[simp] theorem fieldOf0_43 : fieldOf Tryd.prog 43 0 = some 0 := by kernel_rfl
@[simp] theorem fieldTy0_43 : fieldTy Tryd.prog 43 0 = some (41, 0) := by kernel_rfl
@[simp] theorem placeOf0_43 : placeOf Tryd.prog 43 0 = some (0, 8) := by kernel_rfl
@[simp] theorem sized_43 : sized Tryd.prog 43 = true := by kernel_rfl
@[simp] theorem loadG_43 {α : Type} (mk : List α → α) (cs : List α) (off : Nat) : loadG mk Tryd.prog 43 cs off = if off + 8 ≤ cs.length then some (mk ((cs.drop off).take 8)) else none := by kernel_rfl
@[simp] theorem szOf_45 : szOf Tryd.prog 45 = some (1) := by kernel_rfl
@[simp] theorem known_45 : known Tryd.prog 45 = true := by kernel_rfl
@[simp] theorem isString_45 : isString Tryd.prog 45 = false := by kernel_rfl
@[simp] theorem isSlice_45 : isSlice Tryd.prog 45 = false := by kernel_rfl
@[simp] theorem isIface_45 : isIface Tryd.prog 45 = some (false) := by kernel_rfl
@[simp] theorem concrete_45 : concrete Tryd.prog 45 = true := by kernel_rfl
@[simp] theorem bytesOf_45 : bytesOf Tryd.prog 45 = none := by kernel_rfl
@[simp] theorem zeroCellsOf_45 : zeroCellsOf Tryd.prog 45 = some [.d (.v (.int .u64 0))] := by kernel_rfl
@[simp] theorem zeroS_45 : zeroS Tryd.prog 45 = some (.d (.v (.int .u64 0))) := by kernel_rfl
@[simp] theorem intKindOf_45 : intKindOf Tryd.prog 45 = some .u64 := by kernel_rfl
@[simp] theorem loadG_45 {α : Type} (mk : List α → α) (cs : List α) (off : Nat) : loadG mk Tryd.prog 45 cs off = cs[off]? := by kernel_rfl
@[simp] theorem szOf_47 : szOf Tryd.prog 47 = some (10) := by kernel_rfl
@[simp] theorem known_47 : known Tryd.prog 47 = true := by kernel_rfl
@[simp] theorem isString_47 : isString Tryd.prog 47 = false := by kernel_rfl
@[simp] theorem isSlice_47 : isSlice Tryd.prog 47 = false := by kernel_rfl
@[simp] theorem isIface_47 : isIface Tryd.prog 47 = some (false) := by kernel_rfl
@[simp] theorem concrete_47 : concrete Tryd.prog 47 = true := by kernel_rfl
@[simp] theorem bytesOf_47 : bytesOf Tryd.prog 47 = none := by kernel_rfl
@[simp] theorem zeroCellsOf_47 : zeroCellsOf Tryd.prog 47 = some [.d (.v (.int .u32 0)), .d (.v (.int .u32 0)), .d (.v (.int .u32 0)), .d (.v (.int .u32 0)), .d (.v (.int .u32 0)), .d (.v (.int .u32 0)), .d (.v (.int .u32 0)), .d (.v (.int .u32 0)), .fl [] 0, .d (.v (.int .u64 0))] := by kernel_rfl
@[simp] theorem zeroS_47 : zeroS Tryd.prog 47 = some (.ag [.d (.v (.int .u32 0)), .d (.v (.int .u32 0)), .d (.v (.int .u32 0)), .d (.v (.int .u32 0)), .d (.v (.int .u32 0)), .d (.v (.int .u32 0)), .d (.v (.int .u32 0)), .d (.v (.int .u32 0)), .fl [] 0, .d (.v (.int .u64 0))]) := by kernel_rfl
@[simp] theorem fieldOf0_47 : fieldOf Tryd.prog 47 0 = some 0 := by kernel_rfl
@[simp] theorem fieldTy0_47 : fieldTy Tryd.prog 47 0 = some (43, 0) := by kernel_rfl
@[simp] theorem placeOf0_47 : placeOf Tryd.prog 47 0 = some (0, 8) := by kernel_rfl
@[simp] theorem fieldOf1_47 : fieldOf Tryd.prog 47 1 = some 8 := by kernel_rfl
@[simp] theorem fieldTy1_47 : fieldTy Tryd.prog 47 1 = some (24, 8) := by kernel_rfl
@[simp] theorem placeOf1_47 : placeOf Tryd.prog 47 1 = some (8, 1) := by kernel_rfl
@[simp] theorem fieldOf2_47 : fieldOf Tryd.prog 47 2 = some 9 := by kernel_rfl
@[simp] theorem fieldTy2_47 : fieldTy Tryd.prog 47 2 = some (45, 9) := by kernel_rfl
@[simp] theorem placeOf2_47 : placeOf Tryd.prog 47 2 = some (9, 1) := by kernel_rfl
@[simp] theorem sized_47 : sized Tryd.prog 47 = true := by kernel_rfl
@[simp] theorem loadG_47 {α : Type} (mk : List α → α) (cs : List α) (off : Nat) : loadG mk Tryd.prog 47 cs off = if off + 10 ≤ cs.length then some (mk ((cs.drop off).take 10)) else none := by kernel_rfl
@[simp] theorem szOf_49 : szOf Tryd.prog 49 = some (1) := by kernel_rfl
@[simp] theorem known_49 : known Tryd.prog 49 = true := by kernel_rfl
@[simp] theorem isString_49 : isString Tryd.prog 49 = false := by kernel_rfl
@[simp] theorem isSlice_49 : isSlice Tryd.prog 49 = true := by kernel_rfl
@[simp] theorem isIface_49 : isIface Tryd.prog 49 = some (false) := by kernel_rfl
@[simp] theorem concrete_49 : concrete Tryd.prog 49 = true := by kernel_rfl
@[simp] theorem bytesOf_49 : bytesOf Tryd.prog 49 = none := by kernel_rfl
@[simp] theorem zeroCellsOf_49 : zeroCellsOf Tryd.prog 49 = some [.fl [] 0] := by kernel_rfl
@[simp] theorem zeroS_49 : zeroS Tryd.prog 49 = some (.fl [] 0) := by kernel_rfl
@[simp] theorem elemOf_49 : Sh.elemOf Tryd.prog 49 = some (40, 1) := by kernel_rfl
@[simp] theorem appOf_49 : appOf Tryd.prog 49 = some (40, 1, 4) := by kernel_rfl
@[simp] theorem makeOf_49 : makeOf Tryd.prog 49 = some ([.d (.v (.int .u32 0))], 1, 4) := by kernel_rfl
@[simp] theorem zerosOf_49 : zerosOf Tryd.prog 49 = some ([.v (.int .u32 0)], 1) := by kernel_rfl
@[simp] theorem loadG_49 {α : Type} (mk : List α → α) (cs : List α) (off : Nat) : loadG mk Tryd.prog 49 cs off = cs[off]? := by kernel_rfl
@[simp] theorem szOf_50 : szOf Tryd.prog 50 = some (1) := by kernel_rfl
@[simp] theorem known_50 : known Tryd.prog 50 = true := by kernel_rfl
@[simp] theorem isString_50 : isString Tryd.prog 50 = false := by kernel_rfl
@[simp] theorem isSlice_50 : isSlice Tryd.prog 50 = false := by kernel_rfl
@[simp] theorem isIface_50 : isIface Tryd.prog 50 = some (false) := by kernel_rfl
@[simp] theorem concrete_50 : concrete Tryd.prog 50 = true := by kernel_rfl
@[simp] theorem bytesOf_50 : bytesOf Tryd.prog 50 = none := by kernel_rfl
@[simp] theorem zeroCellsOf_50 : zeroCellsOf Tryd.prog 50 = some [.d (.v (.pointer none))] := by kernel_rfl
@[simp] theorem zeroS_50 : zeroS Tryd.prog 50 = some (.d (.v (.pointer none))) := by kernel_rfl
@[simp] theorem nilEqN_50 : evalNil Tryd.prog .eql 50 (.d (.v (.pointer none))) (.pointer none) = some (.d (.v (.bool true))) := by kernel_rfl
@[simp] theorem nilNeN_50 : evalNil Tryd.prog .neq 50 (.d (.v (.pointer none))) (.pointer none) = some (.d (.v (.bool false))) := by kernel_rfl
@[simp] theorem nilEqO_50 (b off : Nat) : evalNil Tryd.prog .eql 50 (.op b off) (.pointer none) = some (.d (.v (.bool false))) := by kernel_rfl
@[simp] theorem nilNeO_50 (b off : Nat) : evalNil Tryd.prog .neq 50 (.op b off) (.pointer none) = some (.d (.v (.bool true))) := by kernel_rfl
@[simp] theorem nilEqP_50 (cs : List D) (off : Nat) : evalNil Tryd.prog .eql 50 (.d (.pp cs off)) (.pointer none) = some (.d (.v (.bool false))) := by kernel_rfl
@[simp] theorem nilNeP_50 (cs : List D) (off : Nat) : evalNil Tryd.prog .neq 50 (.d (.pp cs off)) (.pointer none) = some (.d (.v (.bool true))) := by kernel_rfl
@[simp] theorem loadG_50 {α : Type} (mk : List α → α) (cs : List α) (off : Nat) : loadG mk Tryd.prog 50 cs off = cs[off]? := by kernel_rfl
@[simp] theorem szOf_59 : szOf Tryd.prog 59 = some (1) := by kernel_rfl
@[simp] theorem known_59 : known Tryd.prog 59 = true := by kernel_rfl
@[simp] theorem isString_59 : isString Tryd.prog 59 = false := by kernel_rfl
@[simp] theorem isSlice_59 : isSlice Tryd.prog 59 = false := by kernel_rfl
@[simp] theorem isIface_59 : isIface Tryd.prog 59 = some (false) := by kernel_rfl
@[simp] theorem concrete_59 : concrete Tryd.prog 59 = true := by kernel_rfl
@[simp] theorem bytesOf_59 : bytesOf Tryd.prog 59 = none := by kernel_rfl
@[simp] theorem zeroCellsOf_59 : zeroCellsOf Tryd.prog 59 = some [.d (.v (.int .u64 0))] := by kernel_rfl
@[simp] theorem zeroS_59 : zeroS Tryd.prog 59 = some (.d (.v (.int .u64 0))) := by kernel_rfl
@[simp] theorem intKindOf_59 : intKindOf Tryd.prog 59 = some .u64 := by kernel_rfl
@[simp] theorem loadG_59 {α : Type} (mk : List α → α) (cs : List α) (off : Nat) : loadG mk Tryd.prog 59 cs off = cs[off]? := by kernel_rfl
@[simp] theorem szOf_60 : szOf Tryd.prog 60 = some (1) := by kernel_rfl
@[simp] theorem known_60 : known Tryd.prog 60 = true := by kernel_rfl
@[simp] theorem isString_60 : isString Tryd.prog 60 = false := by kernel_rfl
@[simp] theorem isSlice_60 : isSlice Tryd.prog 60 = false := by kernel_rfl
@[simp] theorem isIface_60 : isIface Tryd.prog 60 = some (false) := by kernel_rfl
@[simp] theorem concrete_60 : concrete Tryd.prog 60 = true := by kernel_rfl
@[simp] theorem bytesOf_60 : bytesOf Tryd.prog 60 = none := by kernel_rfl
@[simp] theorem zeroCellsOf_60 : zeroCellsOf Tryd.prog 60 = some [.d (.v (.pointer none))] := by kernel_rfl
@[simp] theorem zeroS_60 : zeroS Tryd.prog 60 = some (.d (.v (.pointer none))) := by kernel_rfl
@[simp] theorem nilEqN_60 : evalNil Tryd.prog .eql 60 (.d (.v (.pointer none))) (.pointer none) = some (.d (.v (.bool true))) := by kernel_rfl
@[simp] theorem nilNeN_60 : evalNil Tryd.prog .neq 60 (.d (.v (.pointer none))) (.pointer none) = some (.d (.v (.bool false))) := by kernel_rfl
@[simp] theorem nilEqO_60 (b off : Nat) : evalNil Tryd.prog .eql 60 (.op b off) (.pointer none) = some (.d (.v (.bool false))) := by kernel_rfl
@[simp] theorem nilNeO_60 (b off : Nat) : evalNil Tryd.prog .neq 60 (.op b off) (.pointer none) = some (.d (.v (.bool true))) := by kernel_rfl
@[simp] theorem nilEqP_60 (cs : List D) (off : Nat) : evalNil Tryd.prog .eql 60 (.d (.pp cs off)) (.pointer none) = some (.d (.v (.bool false))) := by kernel_rfl
@[simp] theorem nilNeP_60 (cs : List D) (off : Nat) : evalNil Tryd.prog .neq 60 (.d (.pp cs off)) (.pointer none) = some (.d (.v (.bool true))) := by kernel_rfl
@[simp] theorem loadG_60 {α : Type} (mk : List α → α) (cs : List α) (off : Nat) : loadG mk Tryd.prog 60 cs off = cs[off]? := by kernel_rfl
@[simp] theorem szOf_62 : szOf Tryd.prog 62 = some (2) := by kernel_rfl
@[simp] theorem known_62 : known Tryd.prog 62 = true := by kernel_rfl
@[simp] theorem isString_62 : isString Tryd.prog 62 = false := by kernel_rfl
@[simp] theorem isSlice_62 : isSlice Tryd.prog 62 = false := by kernel_rfl
@[simp] theorem isIface_62 : isIface Tryd.prog 62 = some (false) := by kernel_rfl
@[simp] theorem concrete_62 : concrete Tryd.prog 62 = true := by kernel_rfl
@[simp] theorem bytesOf_62 : bytesOf Tryd.prog 62 = none := by kernel_rfl
@[simp] theorem zeroCellsOf_62 : zeroCellsOf Tryd.prog 62 = some [.fl [] 0, .d (.v (.int .i64 0))] := by kernel_rfl
@[simp] theorem zeroS_62 : zeroS Tryd.prog 62 = some (.ag [.fl [] 0, .d (.v (.int .i64 0))]) := by kernel_rfl
@[simp] theorem fieldOf0_62 : fieldOf Tryd.prog 62 0 = some 0 := by kernel_rfl
@[simp] theorem fieldTy0_62 : fieldTy Tryd.prog 62 0 = some (24, 0) := by kernel_rfl
@[simp] theorem placeOf0_62 : placeOf Tryd.prog 62 0 = some (0, 1) := by kernel_rfl
@[simp] theorem fieldOf1_62 : fieldOf Tryd.prog 62 1 = some 1 := by kernel_rfl
@[simp] theorem fieldTy1_62 : fieldTy Tryd.prog 62 1 = some (3, 1) := by kernel_rfl
@[simp] theorem placeOf1_62 : placeOf Tryd.prog 62 1 = some (1, 1) := by kernel_rfl
@[simp] theorem sized_62 : sized Tryd.prog 62 = true := by kernel_rfl
@[simp] theorem loadG_62 {α : Type} (mk : List α → α) (cs : List α) (off : Nat) : loadG mk Tryd.prog 62 cs off = if off + 2 ≤ cs.length then some (mk ((cs.drop off).take 2)) else none := by kernel_rfl
@[simp] theorem szOf_69 : szOf Tryd.prog 69 = some (64) := by kernel_rfl
@[simp] theorem known_69 : known Tryd.prog 69 = true := by kernel_rfl
@[simp] theorem isString_69 : isString Tryd.prog 69 = false := by kernel_rfl
@[simp] theorem isSlice_69 : isSlice Tryd.prog 69 = false := by kernel_rfl
@[simp] theorem isIface_69 : isIface Tryd.prog 69 = some (false) := by kernel_rfl
@[simp] theorem concrete_69 : concrete Tryd.prog 69 = true := by kernel_rfl
@[simp] theorem bytesOf_69 : bytesOf Tryd.prog 69 = none := by kernel_rfl
@[simp] theorem zeroCellsOf_69 : zeroCellsOf Tryd.prog 69 = some [.d (.v (.int .u32 0)), .d (.v (.int .u32 0)), .d (.v (.int .u32 0)), .d (.v (.int .u32 0)), .d (.v (.int .u32 0)), .d (.v (.int .u32 0)), .d (.v (.int .u32 0)), .d (.v (.int .u32 0)), .d (.v (.int .u32 0)), .d (.v (.int .u32 0)), .d (.v (.int .u32 0)), .d (.v (.int .u32 0)), .d (.v (.int .u32 0)), .d (.v (.int .u32 0)), .d (.v (.int .u32 0)), .d (.v (.int .u32 0)), .d (.v (.int .u32 0)), .d (.v (.int .u32 0)), .d (.v (.int .u32 0)), .d (.v (.int .u32 0)), .d (.v (.int .u32 0)), .d (.v (.int .u32 0)), .d (.v (.int .u32 0)), .d (.v (.int .u32 0)), .d (.v (.int .u32 0)), .d (.v (.int .u32 0)), .d (.v (.int .u32 0)), .d (.v (.int .u32 0)), .d (.v (.int .u32 0)), .d (.v (.int .u32 0)), .d (.v (.int .u32 0)), .d (.v (.int .u32 0)), .d (.v (.int .u32 0)), .d (.v (.int .u32 0)), .d (.v (.int .u32 0)), .d (.v (.int .u32 0)), .d (.v (.int .u32 0)), .d (.v (.int .u32 0)), .d (.v (.int .u32 0)), .d (.v (.int .u32 0)), .d (.v (.int .u32 0)), .d (.v (.int .u32 0)), .d (.v (.int .u32 0)), .d (.v (.int .u32 0)), .d (.v (.int .u32 0)), .d (.v (.int .u32 0)), .d (.v (.int .u32 0)), .d (.v (.int .u32 0)), .d (.v (.int .u32 0)), .d (.v (.int .u32 0)), .d (.v (.int .u32 0)), .d (.v (.int .u32 0)), .d (.v (.int .u32 0)), .d (.v (.int .u32 0)), .d (.v (.int .u32 0)), .d (.v (.int .u32 0)), .d (.v (.int .u32 0)), .d (.v (.int .u32 0)), .d (.v (.int .u32 0)), .d (.v (.int .u32 0)), .d (.v (.int .u32 0)), .d (.v (.int .u32 0)), .d (.v (.int .u32 0)), .d (.v (.int .u32 0))] := by kernel_rfl
@[simp] theorem zeroS_69 : zeroS Tryd.prog 69 = some (.ag [.d (.v (.int .u32 0)), .d (.v (.int .u32 0)), .d (.v (.int .u32 0)), .d (.v (.int .u32 0)), .d (.v (.int .u32 0)), .d (.v (.int .u32 0)), .d (.v (.int .u32 0)), .d (.v (.int .u32 0)), .d (.v (.int .u32 0)), .d (.v (.int .u32 0)), .d (.v (.int .u32 0)), .d (.v (.int .u32 0)), .d (.v (.int .u32 0)), .d (.v (.int .u32 0)), .d (.v (.int .u32 0)), .d (.v (.int .u32 0)), .d (.v (.int .u32 0)), .d (.v (.int .u32 0)), .d (.v (.int .u32 0)), .d (.v (.int .u32 0)), .d (.v (.int .u32 0)), .d (.v (.int .u32 0)), .d (.v (.int .u32 0)), .d (.v (.int .u32 0)), .d (.v (.int .u32 0)), .d (.v (.int .u32 0)), .d (.v (.int .u32 0)), .d (.v (.int .u32 0)), .d (.v (.int .u32 0)), .d (.v (.int .u32 0)), .d (.v (.int .u32 0)), .d (.v (.int .u32 0)), .d (.v (.int .u32 0)), .d (.v (.int .u32 0)), .d (.v (.int .u32 0)), .d (.v (.int .u32 0)), .d (.v (.int .u32 0)), .d (.v (.int .u32 0)), .d (.v (.int .u32 0)), .d (.v (.int .u32 0)), .d (.v (.int .u32 0)), .d (.v (.int .u32 0)), .d (.v (.int .u32 0)), .d (.v (.int .u32 0)), .d (.v (.int .u32 0)), .d (.v (.int .u32 0)), .d (.v (.int .u32 0)), .d (.v (.int .u32 0)), .d (.v (.int .u32 0)), .d (.v (.int .u32 0)), .d (.v (.int .u32 0)), .d (.v (.int .u32 0)), .d (.v (.int .u32 0)), .d (.v (.int .u32 0)), .d (.v (.int .u32 0)), .d (.v (.int .u32 0)), .d (.v (.int .u32 0)), .d (.v (.int .u32 0)), .d (.v (.int .u32 0)), .d (.v (.int .u32 0)), .d (.v (.int .u32 0)), .d (.v (.int .u32 0)), .d (.v (.int .u32 0)), .d (.v (.int .u32 0))]) := by kernel_rfl
@[simp] theorem arrayOf_69 : arrayOf Tryd.prog 69 = some (64, 1) := by kernel_rfl
@[simp] theorem sized_69 : sized Tryd.prog 69 = true := by kernel_rfl
@[simp] theorem placeOf_69 (i : Nat) : placeOf Tryd.prog 69 i = some (i * 1, 1) := by kernel_rfl
@[simp] theorem loadG_69 {α : Type} (mk : List α → α) (cs : List α) (off : Nat) : loadG mk Tryd.prog 69 cs off = if off + 64 ≤ cs.length then some (mk ((cs.drop off).take 64)) else none := by kernel_rfl
end Go.Proofs.YtocjkeieieknbaaDoor
