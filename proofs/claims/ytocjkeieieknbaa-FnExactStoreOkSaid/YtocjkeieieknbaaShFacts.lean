/- The facts of the program's types, as the shadow asks for them. -/
import Derived.Test.YtocjkeieieknbaaShO
import Derived.Test.YtocjkeieieknbaaProg
set_option linter.unusedVariables false
set_option linter.unusedSimpArgs false
set_option maxRecDepth 100000
namespace Go.Proofs.Ytocjkeieieknbaa
open Go.Sh
@[simp] theorem szOf_3 : szOf Try.prog 3 = some (1) := by kernel_rfl
@[simp] theorem known_3 : known Try.prog 3 = true := by kernel_rfl
@[simp] theorem isString_3 : isString Try.prog 3 = false := by kernel_rfl
@[simp] theorem isSlice_3 : isSlice Try.prog 3 = false := by kernel_rfl
@[simp] theorem isIface_3 : isIface Try.prog 3 = some (false) := by kernel_rfl
@[simp] theorem concrete_3 : concrete Try.prog 3 = true := by kernel_rfl
@[simp] theorem bytesOf_3 : bytesOf Try.prog 3 = none := by kernel_rfl
@[simp] theorem zeroCellsOf_3 : zeroCellsOf Try.prog 3 = some [.d (.v (.int .i64 0))] := by kernel_rfl
@[simp] theorem zeroS_3 : zeroS Try.prog 3 = some (.d (.v (.int .i64 0))) := by kernel_rfl
@[simp] theorem intKindOf_3 : intKindOf Try.prog 3 = some .i64 := by kernel_rfl
@[simp] theorem loadG_3 {α : Type} (mk : List α → α) (cs : List α) (off : Nat) : loadG mk Try.prog 3 cs off = cs[off]? := by kernel_rfl
@[simp] theorem szOf_4 : szOf Try.prog 4 = some (1) := by kernel_rfl
@[simp] theorem known_4 : known Try.prog 4 = true := by kernel_rfl
@[simp] theorem isString_4 : isString Try.prog 4 = false := by kernel_rfl
@[simp] theorem isSlice_4 : isSlice Try.prog 4 = false := by kernel_rfl
@[simp] theorem isIface_4 : isIface Try.prog 4 = some (false) := by kernel_rfl
@[simp] theorem concrete_4 : concrete Try.prog 4 = true := by kernel_rfl
@[simp] theorem bytesOf_4 : bytesOf Try.prog 4 = none := by kernel_rfl
@[simp] theorem zeroCellsOf_4 : zeroCellsOf Try.prog 4 = some [.d (.v (.bool false))] := by kernel_rfl
@[simp] theorem zeroS_4 : zeroS Try.prog 4 = some (.d (.v (.bool false))) := by kernel_rfl
@[simp] theorem boolEq_4 (a b : Bool) : binS Try.prog .eql 4 (.bool a) (.bool b) = some (.bool (a == b)) := by kernel_rfl
@[simp] theorem boolNe_4 (a b : Bool) : binS Try.prog .neq 4 (.bool a) (.bool b) = some (.bool (!(a == b))) := by kernel_rfl
@[simp] theorem loadG_4 {α : Type} (mk : List α → α) (cs : List α) (off : Nat) : loadG mk Try.prog 4 cs off = cs[off]? := by kernel_rfl
@[simp] theorem szOf_5 : szOf Try.prog 5 = some (1) := by kernel_rfl
@[simp] theorem known_5 : known Try.prog 5 = true := by kernel_rfl
@[simp] theorem isString_5 : isString Try.prog 5 = false := by kernel_rfl
@[simp] theorem isSlice_5 : isSlice Try.prog 5 = false := by kernel_rfl
@[simp] theorem isIface_5 : isIface Try.prog 5 = some (false) := by kernel_rfl
@[simp] theorem concrete_5 : concrete Try.prog 5 = true := by kernel_rfl
@[simp] theorem bytesOf_5 : bytesOf Try.prog 5 = none := by kernel_rfl
@[simp] theorem zeroCellsOf_5 : zeroCellsOf Try.prog 5 = some [.d (.v (.int .u8 0))] := by kernel_rfl
@[simp] theorem zeroS_5 : zeroS Try.prog 5 = some (.d (.v (.int .u8 0))) := by kernel_rfl
@[simp] theorem intKindOf_5 : intKindOf Try.prog 5 = some .u8 := by kernel_rfl
@[simp] theorem loadG_5 {α : Type} (mk : List α → α) (cs : List α) (off : Nat) : loadG mk Try.prog 5 cs off = cs[off]? := by kernel_rfl
@[simp] theorem szOf_9 : szOf Try.prog 9 = some (1) := by kernel_rfl
@[simp] theorem known_9 : known Try.prog 9 = true := by kernel_rfl
@[simp] theorem isString_9 : isString Try.prog 9 = true := by kernel_rfl
@[simp] theorem isSlice_9 : isSlice Try.prog 9 = false := by kernel_rfl
@[simp] theorem isIface_9 : isIface Try.prog 9 = some (false) := by kernel_rfl
@[simp] theorem concrete_9 : concrete Try.prog 9 = true := by kernel_rfl
@[simp] theorem bytesOf_9 : bytesOf Try.prog 9 = none := by kernel_rfl
@[simp] theorem zeroCellsOf_9 : zeroCellsOf Try.prog 9 = some [.d (.v (.string ⟨#[]⟩))] := by kernel_rfl
@[simp] theorem zeroS_9 : zeroS Try.prog 9 = some (.d (.v (.string ⟨#[]⟩))) := by kernel_rfl
@[simp] theorem loadG_9 {α : Type} (mk : List α → α) (cs : List α) (off : Nat) : loadG mk Try.prog 9 cs off = cs[off]? := by kernel_rfl
@[simp] theorem szOf_22 : szOf Try.prog 22 = some (1) := by kernel_rfl
@[simp] theorem known_22 : known Try.prog 22 = true := by kernel_rfl
@[simp] theorem isString_22 : isString Try.prog 22 = false := by kernel_rfl
@[simp] theorem isSlice_22 : isSlice Try.prog 22 = true := by kernel_rfl
@[simp] theorem isIface_22 : isIface Try.prog 22 = some (false) := by kernel_rfl
@[simp] theorem concrete_22 : concrete Try.prog 22 = true := by kernel_rfl
@[simp] theorem bytesOf_22 : bytesOf Try.prog 22 = none := by kernel_rfl
@[simp] theorem zeroCellsOf_22 : zeroCellsOf Try.prog 22 = some [.fl [] 0] := by kernel_rfl
@[simp] theorem zeroS_22 : zeroS Try.prog 22 = some (.fl [] 0) := by kernel_rfl
@[simp] theorem elemOf_22 : Sh.elemOf Try.prog 22 = some (9, 1) := by kernel_rfl
@[simp] theorem appOf_22 : appOf Try.prog 22 = some (9, 1, 16) := by kernel_rfl
@[simp] theorem makeOf_22 : makeOf Try.prog 22 = some ([.d (.v (.string ⟨#[]⟩))], 1, 16) := by kernel_rfl
@[simp] theorem zerosOf_22 : zerosOf Try.prog 22 = some ([.v (.string ⟨#[]⟩)], 1) := by kernel_rfl
@[simp] theorem loadG_22 {α : Type} (mk : List α → α) (cs : List α) (off : Nat) : loadG mk Try.prog 22 cs off = cs[off]? := by kernel_rfl
@[simp] theorem szOf_24 : szOf Try.prog 24 = some (2) := by kernel_rfl
@[simp] theorem known_24 : known Try.prog 24 = true := by kernel_rfl
@[simp] theorem isString_24 : isString Try.prog 24 = false := by kernel_rfl
@[simp] theorem isSlice_24 : isSlice Try.prog 24 = false := by kernel_rfl
@[simp] theorem isIface_24 : isIface Try.prog 24 = some (false) := by kernel_rfl
@[simp] theorem concrete_24 : concrete Try.prog 24 = true := by kernel_rfl
@[simp] theorem bytesOf_24 : bytesOf Try.prog 24 = none := by kernel_rfl
@[simp] theorem zeroCellsOf_24 : zeroCellsOf Try.prog 24 = some [.fl [] 0, .fl [] 0] := by kernel_rfl
@[simp] theorem zeroS_24 : zeroS Try.prog 24 = some (.ag [.fl [] 0, .fl [] 0]) := by kernel_rfl
@[simp] theorem fieldOf0_24 : fieldOf Try.prog 24 0 = some 0 := by kernel_rfl
@[simp] theorem fieldTy0_24 : fieldTy Try.prog 24 0 = some (22, 0) := by kernel_rfl
@[simp] theorem placeOf0_24 : placeOf Try.prog 24 0 = some (0, 1) := by kernel_rfl
@[simp] theorem fieldOf1_24 : fieldOf Try.prog 24 1 = some 1 := by kernel_rfl
@[simp] theorem fieldTy1_24 : fieldTy Try.prog 24 1 = some (22, 1) := by kernel_rfl
@[simp] theorem placeOf1_24 : placeOf Try.prog 24 1 = some (1, 1) := by kernel_rfl
@[simp] theorem sized_24 : sized Try.prog 24 = true := by kernel_rfl
@[simp] theorem loadG_24 {α : Type} (mk : List α → α) (cs : List α) (off : Nat) : loadG mk Try.prog 24 cs off = if off + 2 ≤ cs.length then some (mk ((cs.drop off).take 2)) else none := by kernel_rfl
@[simp] theorem szOf_27 : szOf Try.prog 27 = some (2) := by kernel_rfl
@[simp] theorem known_27 : known Try.prog 27 = true := by kernel_rfl
@[simp] theorem isString_27 : isString Try.prog 27 = false := by kernel_rfl
@[simp] theorem isSlice_27 : isSlice Try.prog 27 = false := by kernel_rfl
@[simp] theorem isIface_27 : isIface Try.prog 27 = some (false) := by kernel_rfl
@[simp] theorem concrete_27 : concrete Try.prog 27 = true := by kernel_rfl
@[simp] theorem bytesOf_27 : bytesOf Try.prog 27 = none := by kernel_rfl
@[simp] theorem zeroCellsOf_27 : zeroCellsOf Try.prog 27 = some [.fl [] 0, .fl [] 0] := by kernel_rfl
@[simp] theorem zeroS_27 : zeroS Try.prog 27 = some (.ag [.fl [] 0, .fl [] 0]) := by kernel_rfl
@[simp] theorem fieldOf0_27 : fieldOf Try.prog 27 0 = some 0 := by kernel_rfl
@[simp] theorem fieldTy0_27 : fieldTy Try.prog 27 0 = some (22, 0) := by kernel_rfl
@[simp] theorem placeOf0_27 : placeOf Try.prog 27 0 = some (0, 1) := by kernel_rfl
@[simp] theorem fieldOf1_27 : fieldOf Try.prog 27 1 = some 1 := by kernel_rfl
@[simp] theorem fieldTy1_27 : fieldTy Try.prog 27 1 = some (22, 1) := by kernel_rfl
@[simp] theorem placeOf1_27 : placeOf Try.prog 27 1 = some (1, 1) := by kernel_rfl
@[simp] theorem sized_27 : sized Try.prog 27 = true := by kernel_rfl
@[simp] theorem loadG_27 {α : Type} (mk : List α → α) (cs : List α) (off : Nat) : loadG mk Try.prog 27 cs off = if off + 2 ≤ cs.length then some (mk ((cs.drop off).take 2)) else none := by kernel_rfl
@[simp] theorem szOf_31 : szOf Try.prog 31 = some (1) := by kernel_rfl
@[simp] theorem known_31 : known Try.prog 31 = true := by kernel_rfl
@[simp] theorem isString_31 : isString Try.prog 31 = false := by kernel_rfl
@[simp] theorem isSlice_31 : isSlice Try.prog 31 = true := by kernel_rfl
@[simp] theorem isIface_31 : isIface Try.prog 31 = some (false) := by kernel_rfl
@[simp] theorem concrete_31 : concrete Try.prog 31 = true := by kernel_rfl
@[simp] theorem bytesOf_31 : bytesOf Try.prog 31 = none := by kernel_rfl
@[simp] theorem zeroCellsOf_31 : zeroCellsOf Try.prog 31 = some [.fl [] 0] := by kernel_rfl
@[simp] theorem zeroS_31 : zeroS Try.prog 31 = some (.fl [] 0) := by kernel_rfl
@[simp] theorem elemOf_31 : Sh.elemOf Try.prog 31 = some (70, 7) := by kernel_rfl
@[simp] theorem appOf_31 : appOf Try.prog 31 = some (70, 7, 104) := by kernel_rfl
@[simp] theorem makeOf_31 : makeOf Try.prog 31 = some ([.d (.v (.int .i64 0)), .d (.v (.string ⟨#[]⟩)), .d (.v (.int .i64 0)), .d (.v (.int .i64 0)), .d (.v (.string ⟨#[]⟩)), .fl [] 0, .fl [] 0], 7, 104) := by kernel_rfl
@[simp] theorem zerosOf_31 : zerosOf Try.prog 31 = some ([.v (.int .i64 0), .v (.string ⟨#[]⟩), .v (.int .i64 0), .v (.int .i64 0), .v (.string ⟨#[]⟩), .ps [] 0, .ps [] 0], 7) := by kernel_rfl
@[simp] theorem loadG_31 {α : Type} (mk : List α → α) (cs : List α) (off : Nat) : loadG mk Try.prog 31 cs off = cs[off]? := by kernel_rfl
@[simp] theorem szOf_34 : szOf Try.prog 34 = some (1) := by kernel_rfl
@[simp] theorem known_34 : known Try.prog 34 = true := by kernel_rfl
@[simp] theorem isString_34 : isString Try.prog 34 = false := by kernel_rfl
@[simp] theorem isSlice_34 : isSlice Try.prog 34 = true := by kernel_rfl
@[simp] theorem isIface_34 : isIface Try.prog 34 = some (false) := by kernel_rfl
@[simp] theorem concrete_34 : concrete Try.prog 34 = true := by kernel_rfl
@[simp] theorem bytesOf_34 : bytesOf Try.prog 34 = none := by kernel_rfl
@[simp] theorem zeroCellsOf_34 : zeroCellsOf Try.prog 34 = some [.fl [] 0] := by kernel_rfl
@[simp] theorem zeroS_34 : zeroS Try.prog 34 = some (.fl [] 0) := by kernel_rfl
@[simp] theorem elemOf_34 : Sh.elemOf Try.prog 34 = some (58, 7) := by kernel_rfl
@[simp] theorem appOf_34 : appOf Try.prog 34 = some (58, 7, 104) := by kernel_rfl
@[simp] theorem makeOf_34 : makeOf Try.prog 34 = some ([.d (.v (.int .i64 0)), .d (.v (.string ⟨#[]⟩)), .d (.v (.int .i64 0)), .d (.v (.int .i64 0)), .d (.v (.string ⟨#[]⟩)), .fl [] 0, .fl [] 0], 7, 104) := by kernel_rfl
@[simp] theorem zerosOf_34 : zerosOf Try.prog 34 = some ([.v (.int .i64 0), .v (.string ⟨#[]⟩), .v (.int .i64 0), .v (.int .i64 0), .v (.string ⟨#[]⟩), .ps [] 0, .ps [] 0], 7) := by kernel_rfl
@[simp] theorem loadG_34 {α : Type} (mk : List α → α) (cs : List α) (off : Nat) : loadG mk Try.prog 34 cs off = cs[off]? := by kernel_rfl
@[simp] theorem szOf_38 : szOf Try.prog 38 = some (1) := by kernel_rfl
@[simp] theorem known_38 : known Try.prog 38 = true := by kernel_rfl
@[simp] theorem isString_38 : isString Try.prog 38 = false := by kernel_rfl
@[simp] theorem isSlice_38 : isSlice Try.prog 38 = true := by kernel_rfl
@[simp] theorem isIface_38 : isIface Try.prog 38 = some (false) := by kernel_rfl
@[simp] theorem concrete_38 : concrete Try.prog 38 = true := by kernel_rfl
@[simp] theorem bytesOf_38 : bytesOf Try.prog 38 = none := by kernel_rfl
@[simp] theorem zeroCellsOf_38 : zeroCellsOf Try.prog 38 = some [.fl [] 0] := by kernel_rfl
@[simp] theorem zeroS_38 : zeroS Try.prog 38 = some (.fl [] 0) := by kernel_rfl
@[simp] theorem elemOf_38 : Sh.elemOf Try.prog 38 = some (40, 5) := by kernel_rfl
@[simp] theorem appOf_38 : appOf Try.prog 38 = some (40, 5, 80) := by kernel_rfl
@[simp] theorem makeOf_38 : makeOf Try.prog 38 = some ([.d (.v (.int .i64 0)), .d (.v (.int .i64 0)), .d (.v (.string ⟨#[]⟩)), .fl [] 0, .fl [] 0], 5, 80) := by kernel_rfl
@[simp] theorem zerosOf_38 : zerosOf Try.prog 38 = some ([.v (.int .i64 0), .v (.int .i64 0), .v (.string ⟨#[]⟩), .ps [] 0, .ps [] 0], 5) := by kernel_rfl
@[simp] theorem loadG_38 {α : Type} (mk : List α → α) (cs : List α) (off : Nat) : loadG mk Try.prog 38 cs off = cs[off]? := by kernel_rfl
@[simp] theorem szOf_40 : szOf Try.prog 40 = some (5) := by kernel_rfl
@[simp] theorem known_40 : known Try.prog 40 = true := by kernel_rfl
@[simp] theorem isString_40 : isString Try.prog 40 = false := by kernel_rfl
@[simp] theorem isSlice_40 : isSlice Try.prog 40 = false := by kernel_rfl
@[simp] theorem isIface_40 : isIface Try.prog 40 = some (false) := by kernel_rfl
@[simp] theorem concrete_40 : concrete Try.prog 40 = true := by kernel_rfl
@[simp] theorem bytesOf_40 : bytesOf Try.prog 40 = none := by kernel_rfl
@[simp] theorem zeroCellsOf_40 : zeroCellsOf Try.prog 40 = some [.d (.v (.int .i64 0)), .d (.v (.int .i64 0)), .d (.v (.string ⟨#[]⟩)), .fl [] 0, .fl [] 0] := by kernel_rfl
@[simp] theorem zeroS_40 : zeroS Try.prog 40 = some (.ag [.d (.v (.int .i64 0)), .d (.v (.int .i64 0)), .d (.v (.string ⟨#[]⟩)), .fl [] 0, .fl [] 0]) := by kernel_rfl
@[simp] theorem fieldOf0_40 : fieldOf Try.prog 40 0 = some 0 := by kernel_rfl
@[simp] theorem fieldTy0_40 : fieldTy Try.prog 40 0 = some (3, 0) := by kernel_rfl
@[simp] theorem placeOf0_40 : placeOf Try.prog 40 0 = some (0, 1) := by kernel_rfl
@[simp] theorem fieldOf1_40 : fieldOf Try.prog 40 1 = some 1 := by kernel_rfl
@[simp] theorem fieldTy1_40 : fieldTy Try.prog 40 1 = some (3, 1) := by kernel_rfl
@[simp] theorem placeOf1_40 : placeOf Try.prog 40 1 = some (1, 1) := by kernel_rfl
@[simp] theorem fieldOf2_40 : fieldOf Try.prog 40 2 = some 2 := by kernel_rfl
@[simp] theorem fieldTy2_40 : fieldTy Try.prog 40 2 = some (9, 2) := by kernel_rfl
@[simp] theorem placeOf2_40 : placeOf Try.prog 40 2 = some (2, 1) := by kernel_rfl
@[simp] theorem fieldOf3_40 : fieldOf Try.prog 40 3 = some 3 := by kernel_rfl
@[simp] theorem fieldTy3_40 : fieldTy Try.prog 40 3 = some (38, 3) := by kernel_rfl
@[simp] theorem placeOf3_40 : placeOf Try.prog 40 3 = some (3, 1) := by kernel_rfl
@[simp] theorem fieldOf4_40 : fieldOf Try.prog 40 4 = some 4 := by kernel_rfl
@[simp] theorem fieldTy4_40 : fieldTy Try.prog 40 4 = some (22, 4) := by kernel_rfl
@[simp] theorem placeOf4_40 : placeOf Try.prog 40 4 = some (4, 1) := by kernel_rfl
@[simp] theorem sized_40 : sized Try.prog 40 = true := by kernel_rfl
@[simp] theorem loadG_40 {α : Type} (mk : List α → α) (cs : List α) (off : Nat) : loadG mk Try.prog 40 cs off = if off + 5 ≤ cs.length then some (mk ((cs.drop off).take 5)) else none := by kernel_rfl
@[simp] theorem szOf_46 : szOf Try.prog 46 = some (1) := by kernel_rfl
@[simp] theorem known_46 : known Try.prog 46 = true := by kernel_rfl
@[simp] theorem isString_46 : isString Try.prog 46 = false := by kernel_rfl
@[simp] theorem isSlice_46 : isSlice Try.prog 46 = true := by kernel_rfl
@[simp] theorem isIface_46 : isIface Try.prog 46 = some (false) := by kernel_rfl
@[simp] theorem concrete_46 : concrete Try.prog 46 = true := by kernel_rfl
@[simp] theorem bytesOf_46 : bytesOf Try.prog 46 = none := by kernel_rfl
@[simp] theorem zeroCellsOf_46 : zeroCellsOf Try.prog 46 = some [.fl [] 0] := by kernel_rfl
@[simp] theorem zeroS_46 : zeroS Try.prog 46 = some (.fl [] 0) := by kernel_rfl
@[simp] theorem elemOf_46 : Sh.elemOf Try.prog 46 = some (48, 5) := by kernel_rfl
@[simp] theorem appOf_46 : appOf Try.prog 46 = some (48, 5, 80) := by kernel_rfl
@[simp] theorem makeOf_46 : makeOf Try.prog 46 = some ([.d (.v (.int .i64 0)), .d (.v (.int .i64 0)), .d (.v (.string ⟨#[]⟩)), .fl [] 0, .fl [] 0], 5, 80) := by kernel_rfl
@[simp] theorem zerosOf_46 : zerosOf Try.prog 46 = some ([.v (.int .i64 0), .v (.int .i64 0), .v (.string ⟨#[]⟩), .ps [] 0, .ps [] 0], 5) := by kernel_rfl
@[simp] theorem loadG_46 {α : Type} (mk : List α → α) (cs : List α) (off : Nat) : loadG mk Try.prog 46 cs off = cs[off]? := by kernel_rfl
@[simp] theorem szOf_48 : szOf Try.prog 48 = some (5) := by kernel_rfl
@[simp] theorem known_48 : known Try.prog 48 = true := by kernel_rfl
@[simp] theorem isString_48 : isString Try.prog 48 = false := by kernel_rfl
@[simp] theorem isSlice_48 : isSlice Try.prog 48 = false := by kernel_rfl
@[simp] theorem isIface_48 : isIface Try.prog 48 = some (false) := by kernel_rfl
@[simp] theorem concrete_48 : concrete Try.prog 48 = true := by kernel_rfl
@[simp] theorem bytesOf_48 : bytesOf Try.prog 48 = none := by kernel_rfl
@[simp] theorem zeroCellsOf_48 : zeroCellsOf Try.prog 48 = some [.d (.v (.int .i64 0)), .d (.v (.int .i64 0)), .d (.v (.string ⟨#[]⟩)), .fl [] 0, .fl [] 0] := by kernel_rfl
@[simp] theorem zeroS_48 : zeroS Try.prog 48 = some (.ag [.d (.v (.int .i64 0)), .d (.v (.int .i64 0)), .d (.v (.string ⟨#[]⟩)), .fl [] 0, .fl [] 0]) := by kernel_rfl
@[simp] theorem fieldOf0_48 : fieldOf Try.prog 48 0 = some 0 := by kernel_rfl
@[simp] theorem fieldTy0_48 : fieldTy Try.prog 48 0 = some (3, 0) := by kernel_rfl
@[simp] theorem placeOf0_48 : placeOf Try.prog 48 0 = some (0, 1) := by kernel_rfl
@[simp] theorem fieldOf1_48 : fieldOf Try.prog 48 1 = some 1 := by kernel_rfl
@[simp] theorem fieldTy1_48 : fieldTy Try.prog 48 1 = some (3, 1) := by kernel_rfl
@[simp] theorem placeOf1_48 : placeOf Try.prog 48 1 = some (1, 1) := by kernel_rfl
@[simp] theorem fieldOf2_48 : fieldOf Try.prog 48 2 = some 2 := by kernel_rfl
@[simp] theorem fieldTy2_48 : fieldTy Try.prog 48 2 = some (9, 2) := by kernel_rfl
@[simp] theorem placeOf2_48 : placeOf Try.prog 48 2 = some (2, 1) := by kernel_rfl
@[simp] theorem fieldOf3_48 : fieldOf Try.prog 48 3 = some 3 := by kernel_rfl
@[simp] theorem fieldTy3_48 : fieldTy Try.prog 48 3 = some (46, 3) := by kernel_rfl
@[simp] theorem placeOf3_48 : placeOf Try.prog 48 3 = some (3, 1) := by kernel_rfl
@[simp] theorem fieldOf4_48 : fieldOf Try.prog 48 4 = some 4 := by kernel_rfl
@[simp] theorem fieldTy4_48 : fieldTy Try.prog 48 4 = some (22, 4) := by kernel_rfl
@[simp] theorem placeOf4_48 : placeOf Try.prog 48 4 = some (4, 1) := by kernel_rfl
@[simp] theorem sized_48 : sized Try.prog 48 = true := by kernel_rfl
@[simp] theorem loadG_48 {α : Type} (mk : List α → α) (cs : List α) (off : Nat) : loadG mk Try.prog 48 cs off = if off + 5 ≤ cs.length then some (mk ((cs.drop off).take 5)) else none := by kernel_rfl
@[simp] theorem szOf_54 : szOf Try.prog 54 = some (1) := by kernel_rfl
@[simp] theorem known_54 : known Try.prog 54 = true := by kernel_rfl
@[simp] theorem isString_54 : isString Try.prog 54 = false := by kernel_rfl
@[simp] theorem isSlice_54 : isSlice Try.prog 54 = true := by kernel_rfl
@[simp] theorem isIface_54 : isIface Try.prog 54 = some (false) := by kernel_rfl
@[simp] theorem concrete_54 : concrete Try.prog 54 = true := by kernel_rfl
@[simp] theorem bytesOf_54 : bytesOf Try.prog 54 = some (5) := by kernel_rfl
@[simp] theorem zeroCellsOf_54 : zeroCellsOf Try.prog 54 = some [.fl [] 0] := by kernel_rfl
@[simp] theorem zeroS_54 : zeroS Try.prog 54 = some (.fl [] 0) := by kernel_rfl
@[simp] theorem elemOf_54 : Sh.elemOf Try.prog 54 = some (5, 1) := by kernel_rfl
@[simp] theorem appOf_54 : appOf Try.prog 54 = some (5, 1, 1) := by kernel_rfl
@[simp] theorem makeOf_54 : makeOf Try.prog 54 = some ([.d (.v (.int .u8 0))], 1, 1) := by kernel_rfl
@[simp] theorem zerosOf_54 : zerosOf Try.prog 54 = some ([.v (.int .u8 0)], 1) := by kernel_rfl
@[simp] theorem loadG_54 {α : Type} (mk : List α → α) (cs : List α) (off : Nat) : loadG mk Try.prog 54 cs off = cs[off]? := by kernel_rfl
@[simp] theorem szOf_58 : szOf Try.prog 58 = some (7) := by kernel_rfl
@[simp] theorem known_58 : known Try.prog 58 = true := by kernel_rfl
@[simp] theorem isString_58 : isString Try.prog 58 = false := by kernel_rfl
@[simp] theorem isSlice_58 : isSlice Try.prog 58 = false := by kernel_rfl
@[simp] theorem isIface_58 : isIface Try.prog 58 = some (false) := by kernel_rfl
@[simp] theorem concrete_58 : concrete Try.prog 58 = true := by kernel_rfl
@[simp] theorem bytesOf_58 : bytesOf Try.prog 58 = none := by kernel_rfl
@[simp] theorem zeroCellsOf_58 : zeroCellsOf Try.prog 58 = some [.d (.v (.int .i64 0)), .d (.v (.string ⟨#[]⟩)), .d (.v (.int .i64 0)), .d (.v (.int .i64 0)), .d (.v (.string ⟨#[]⟩)), .fl [] 0, .fl [] 0] := by kernel_rfl
@[simp] theorem zeroS_58 : zeroS Try.prog 58 = some (.ag [.d (.v (.int .i64 0)), .d (.v (.string ⟨#[]⟩)), .d (.v (.int .i64 0)), .d (.v (.int .i64 0)), .d (.v (.string ⟨#[]⟩)), .fl [] 0, .fl [] 0]) := by kernel_rfl
@[simp] theorem fieldOf0_58 : fieldOf Try.prog 58 0 = some 0 := by kernel_rfl
@[simp] theorem fieldTy0_58 : fieldTy Try.prog 58 0 = some (3, 0) := by kernel_rfl
@[simp] theorem placeOf0_58 : placeOf Try.prog 58 0 = some (0, 1) := by kernel_rfl
@[simp] theorem fieldOf1_58 : fieldOf Try.prog 58 1 = some 1 := by kernel_rfl
@[simp] theorem fieldTy1_58 : fieldTy Try.prog 58 1 = some (9, 1) := by kernel_rfl
@[simp] theorem placeOf1_58 : placeOf Try.prog 58 1 = some (1, 1) := by kernel_rfl
@[simp] theorem fieldOf2_58 : fieldOf Try.prog 58 2 = some 2 := by kernel_rfl
@[simp] theorem fieldTy2_58 : fieldTy Try.prog 58 2 = some (40, 2) := by kernel_rfl
@[simp] theorem placeOf2_58 : placeOf Try.prog 58 2 = some (2, 5) := by kernel_rfl
@[simp] theorem sized_58 : sized Try.prog 58 = true := by kernel_rfl
@[simp] theorem loadG_58 {α : Type} (mk : List α → α) (cs : List α) (off : Nat) : loadG mk Try.prog 58 cs off = if off + 7 ≤ cs.length then some (mk ((cs.drop off).take 7)) else none := by kernel_rfl
@[simp] theorem szOf_70 : szOf Try.prog 70 = some (7) := by kernel_rfl
@[simp] theorem known_70 : known Try.prog 70 = true := by kernel_rfl
@[simp] theorem isString_70 : isString Try.prog 70 = false := by kernel_rfl
@[simp] theorem isSlice_70 : isSlice Try.prog 70 = false := by kernel_rfl
@[simp] theorem isIface_70 : isIface Try.prog 70 = some (false) := by kernel_rfl
@[simp] theorem concrete_70 : concrete Try.prog 70 = true := by kernel_rfl
@[simp] theorem bytesOf_70 : bytesOf Try.prog 70 = none := by kernel_rfl
@[simp] theorem zeroCellsOf_70 : zeroCellsOf Try.prog 70 = some [.d (.v (.int .i64 0)), .d (.v (.string ⟨#[]⟩)), .d (.v (.int .i64 0)), .d (.v (.int .i64 0)), .d (.v (.string ⟨#[]⟩)), .fl [] 0, .fl [] 0] := by kernel_rfl
@[simp] theorem zeroS_70 : zeroS Try.prog 70 = some (.ag [.d (.v (.int .i64 0)), .d (.v (.string ⟨#[]⟩)), .d (.v (.int .i64 0)), .d (.v (.int .i64 0)), .d (.v (.string ⟨#[]⟩)), .fl [] 0, .fl [] 0]) := by kernel_rfl
@[simp] theorem fieldOf0_70 : fieldOf Try.prog 70 0 = some 0 := by kernel_rfl
@[simp] theorem fieldTy0_70 : fieldTy Try.prog 70 0 = some (3, 0) := by kernel_rfl
@[simp] theorem placeOf0_70 : placeOf Try.prog 70 0 = some (0, 1) := by kernel_rfl
@[simp] theorem fieldOf1_70 : fieldOf Try.prog 70 1 = some 1 := by kernel_rfl
@[simp] theorem fieldTy1_70 : fieldTy Try.prog 70 1 = some (9, 1) := by kernel_rfl
@[simp] theorem placeOf1_70 : placeOf Try.prog 70 1 = some (1, 1) := by kernel_rfl
@[simp] theorem fieldOf2_70 : fieldOf Try.prog 70 2 = some 2 := by kernel_rfl
@[simp] theorem fieldTy2_70 : fieldTy Try.prog 70 2 = some (48, 2) := by kernel_rfl
@[simp] theorem placeOf2_70 : placeOf Try.prog 70 2 = some (2, 5) := by kernel_rfl
@[simp] theorem sized_70 : sized Try.prog 70 = true := by kernel_rfl
@[simp] theorem loadG_70 {α : Type} (mk : List α → α) (cs : List α) (off : Nat) : loadG mk Try.prog 70 cs off = if off + 7 ≤ cs.length then some (mk ((cs.drop off).take 7)) else none := by kernel_rfl
@[simp] theorem szOf_75 : szOf Try.prog 75 = some (1) := by kernel_rfl
@[simp] theorem known_75 : known Try.prog 75 = true := by kernel_rfl
@[simp] theorem isString_75 : isString Try.prog 75 = false := by kernel_rfl
@[simp] theorem isSlice_75 : isSlice Try.prog 75 = false := by kernel_rfl
@[simp] theorem isIface_75 : isIface Try.prog 75 = some (false) := by kernel_rfl
@[simp] theorem concrete_75 : concrete Try.prog 75 = true := by kernel_rfl
@[simp] theorem bytesOf_75 : bytesOf Try.prog 75 = none := by kernel_rfl
@[simp] theorem zeroCellsOf_75 : zeroCellsOf Try.prog 75 = some [.d (.v (.pointer none))] := by kernel_rfl
@[simp] theorem zeroS_75 : zeroS Try.prog 75 = some (.d (.v (.pointer none))) := by kernel_rfl
@[simp] theorem nilEqN_75 : evalNil Try.prog .eql 75 (.d (.v (.pointer none))) (.pointer none) = some (.d (.v (.bool true))) := by kernel_rfl
@[simp] theorem nilNeN_75 : evalNil Try.prog .neq 75 (.d (.v (.pointer none))) (.pointer none) = some (.d (.v (.bool false))) := by kernel_rfl
@[simp] theorem nilEqO_75 (b off : Nat) : evalNil Try.prog .eql 75 (.op b off) (.pointer none) = some (.d (.v (.bool false))) := by kernel_rfl
@[simp] theorem nilNeO_75 (b off : Nat) : evalNil Try.prog .neq 75 (.op b off) (.pointer none) = some (.d (.v (.bool true))) := by kernel_rfl
@[simp] theorem nilEqP_75 (cs : List D) (off : Nat) : evalNil Try.prog .eql 75 (.d (.pp cs off)) (.pointer none) = some (.d (.v (.bool false))) := by kernel_rfl
@[simp] theorem nilNeP_75 (cs : List D) (off : Nat) : evalNil Try.prog .neq 75 (.d (.pp cs off)) (.pointer none) = some (.d (.v (.bool true))) := by kernel_rfl
@[simp] theorem loadG_75 {α : Type} (mk : List α → α) (cs : List α) (off : Nat) : loadG mk Try.prog 75 cs off = cs[off]? := by kernel_rfl
@[simp] theorem szOf_90 : szOf Try.prog 90 = some (1) := by kernel_rfl
@[simp] theorem known_90 : known Try.prog 90 = true := by kernel_rfl
@[simp] theorem isString_90 : isString Try.prog 90 = false := by kernel_rfl
@[simp] theorem isSlice_90 : isSlice Try.prog 90 = false := by kernel_rfl
@[simp] theorem isIface_90 : isIface Try.prog 90 = some (false) := by kernel_rfl
@[simp] theorem concrete_90 : concrete Try.prog 90 = true := by kernel_rfl
@[simp] theorem bytesOf_90 : bytesOf Try.prog 90 = none := by kernel_rfl
@[simp] theorem zeroCellsOf_90 : zeroCellsOf Try.prog 90 = some [.d (.v (.pointer none))] := by kernel_rfl
@[simp] theorem zeroS_90 : zeroS Try.prog 90 = some (.d (.v (.pointer none))) := by kernel_rfl
@[simp] theorem nilEqN_90 : evalNil Try.prog .eql 90 (.d (.v (.pointer none))) (.pointer none) = some (.d (.v (.bool true))) := by kernel_rfl
@[simp] theorem nilNeN_90 : evalNil Try.prog .neq 90 (.d (.v (.pointer none))) (.pointer none) = some (.d (.v (.bool false))) := by kernel_rfl
@[simp] theorem nilEqO_90 (b off : Nat) : evalNil Try.prog .eql 90 (.op b off) (.pointer none) = some (.d (.v (.bool false))) := by kernel_rfl
@[simp] theorem nilNeO_90 (b off : Nat) : evalNil Try.prog .neq 90 (.op b off) (.pointer none) = some (.d (.v (.bool true))) := by kernel_rfl
@[simp] theorem nilEqP_90 (cs : List D) (off : Nat) : evalNil Try.prog .eql 90 (.d (.pp cs off)) (.pointer none) = some (.d (.v (.bool false))) := by kernel_rfl
@[simp] theorem nilNeP_90 (cs : List D) (off : Nat) : evalNil Try.prog .neq 90 (.d (.pp cs off)) (.pointer none) = some (.d (.v (.bool true))) := by kernel_rfl
@[simp] theorem loadG_90 {α : Type} (mk : List α → α) (cs : List α) (off : Nat) : loadG mk Try.prog 90 cs off = cs[off]? := by kernel_rfl
@[simp] theorem szOf_92 : szOf Try.prog 92 = some (1) := by kernel_rfl
@[simp] theorem known_92 : known Try.prog 92 = true := by kernel_rfl
@[simp] theorem isString_92 : isString Try.prog 92 = false := by kernel_rfl
@[simp] theorem isSlice_92 : isSlice Try.prog 92 = false := by kernel_rfl
@[simp] theorem isIface_92 : isIface Try.prog 92 = some (false) := by kernel_rfl
@[simp] theorem concrete_92 : concrete Try.prog 92 = true := by kernel_rfl
@[simp] theorem bytesOf_92 : bytesOf Try.prog 92 = none := by kernel_rfl
@[simp] theorem zeroCellsOf_92 : zeroCellsOf Try.prog 92 = some [.d (.v (.pointer none))] := by kernel_rfl
@[simp] theorem zeroS_92 : zeroS Try.prog 92 = some (.d (.v (.pointer none))) := by kernel_rfl
@[simp] theorem nilEqN_92 : evalNil Try.prog .eql 92 (.d (.v (.pointer none))) (.pointer none) = some (.d (.v (.bool true))) := by kernel_rfl
@[simp] theorem nilNeN_92 : evalNil Try.prog .neq 92 (.d (.v (.pointer none))) (.pointer none) = some (.d (.v (.bool false))) := by kernel_rfl
@[simp] theorem nilEqO_92 (b off : Nat) : evalNil Try.prog .eql 92 (.op b off) (.pointer none) = some (.d (.v (.bool false))) := by kernel_rfl
@[simp] theorem nilNeO_92 (b off : Nat) : evalNil Try.prog .neq 92 (.op b off) (.pointer none) = some (.d (.v (.bool true))) := by kernel_rfl
@[simp] theorem nilEqP_92 (cs : List D) (off : Nat) : evalNil Try.prog .eql 92 (.d (.pp cs off)) (.pointer none) = some (.d (.v (.bool false))) := by kernel_rfl
@[simp] theorem nilNeP_92 (cs : List D) (off : Nat) : evalNil Try.prog .neq 92 (.d (.pp cs off)) (.pointer none) = some (.d (.v (.bool true))) := by kernel_rfl
@[simp] theorem loadG_92 {α : Type} (mk : List α → α) (cs : List α) (off : Nat) : loadG mk Try.prog 92 cs off = cs[off]? := by kernel_rfl
@[simp] theorem szOf_99 : szOf Try.prog 99 = some (10) := by kernel_rfl
@[simp] theorem known_99 : known Try.prog 99 = true := by kernel_rfl
@[simp] theorem isString_99 : isString Try.prog 99 = false := by kernel_rfl
@[simp] theorem isSlice_99 : isSlice Try.prog 99 = false := by kernel_rfl
@[simp] theorem isIface_99 : isIface Try.prog 99 = some (false) := by kernel_rfl
@[simp] theorem concrete_99 : concrete Try.prog 99 = true := by kernel_rfl
@[simp] theorem bytesOf_99 : bytesOf Try.prog 99 = none := by kernel_rfl
@[simp] theorem zeroCellsOf_99 : zeroCellsOf Try.prog 99 = some [.d (.v (.int .i64 0)), .d (.v (.int .i64 0)), .d (.v (.string ⟨#[]⟩)), .fl [] 0, .fl [] 0, .d (.v (.int .i64 0)), .d (.v (.int .i64 0)), .d (.v (.string ⟨#[]⟩)), .fl [] 0, .fl [] 0] := by kernel_rfl
@[simp] theorem zeroS_99 : zeroS Try.prog 99 = some (.ag [.d (.v (.int .i64 0)), .d (.v (.int .i64 0)), .d (.v (.string ⟨#[]⟩)), .fl [] 0, .fl [] 0, .d (.v (.int .i64 0)), .d (.v (.int .i64 0)), .d (.v (.string ⟨#[]⟩)), .fl [] 0, .fl [] 0]) := by kernel_rfl
@[simp] theorem fieldOf0_99 : fieldOf Try.prog 99 0 = some 0 := by kernel_rfl
@[simp] theorem fieldTy0_99 : fieldTy Try.prog 99 0 = some (40, 0) := by kernel_rfl
@[simp] theorem placeOf0_99 : placeOf Try.prog 99 0 = some (0, 5) := by kernel_rfl
@[simp] theorem fieldOf1_99 : fieldOf Try.prog 99 1 = some 5 := by kernel_rfl
@[simp] theorem fieldTy1_99 : fieldTy Try.prog 99 1 = some (40, 5) := by kernel_rfl
@[simp] theorem placeOf1_99 : placeOf Try.prog 99 1 = some (5, 5) := by kernel_rfl
@[simp] theorem sized_99 : sized Try.prog 99 = true := by kernel_rfl
@[simp] theorem loadG_99 {α : Type} (mk : List α → α) (cs : List α) (off : Nat) : loadG mk Try.prog 99 cs off = if off + 10 ≤ cs.length then some (mk ((cs.drop off).take 10)) else none := by kernel_rfl
@[simp] theorem szOf_100 : szOf Try.prog 100 = some (1) := by kernel_rfl
@[simp] theorem known_100 : known Try.prog 100 = true := by kernel_rfl
@[simp] theorem isString_100 : isString Try.prog 100 = false := by kernel_rfl
@[simp] theorem isSlice_100 : isSlice Try.prog 100 = true := by kernel_rfl
@[simp] theorem isIface_100 : isIface Try.prog 100 = some (false) := by kernel_rfl
@[simp] theorem concrete_100 : concrete Try.prog 100 = true := by kernel_rfl
@[simp] theorem bytesOf_100 : bytesOf Try.prog 100 = none := by kernel_rfl
@[simp] theorem zeroCellsOf_100 : zeroCellsOf Try.prog 100 = some [.fl [] 0] := by kernel_rfl
@[simp] theorem zeroS_100 : zeroS Try.prog 100 = some (.fl [] 0) := by kernel_rfl
@[simp] theorem elemOf_100 : Sh.elemOf Try.prog 100 = some (99, 10) := by kernel_rfl
@[simp] theorem appOf_100 : appOf Try.prog 100 = some (99, 10, 160) := by kernel_rfl
@[simp] theorem makeOf_100 : makeOf Try.prog 100 = some ([.d (.v (.int .i64 0)), .d (.v (.int .i64 0)), .d (.v (.string ⟨#[]⟩)), .fl [] 0, .fl [] 0, .d (.v (.int .i64 0)), .d (.v (.int .i64 0)), .d (.v (.string ⟨#[]⟩)), .fl [] 0, .fl [] 0], 10, 160) := by kernel_rfl
@[simp] theorem zerosOf_100 : zerosOf Try.prog 100 = some ([.v (.int .i64 0), .v (.int .i64 0), .v (.string ⟨#[]⟩), .ps [] 0, .ps [] 0, .v (.int .i64 0), .v (.int .i64 0), .v (.string ⟨#[]⟩), .ps [] 0, .ps [] 0], 10) := by kernel_rfl
@[simp] theorem loadG_100 {α : Type} (mk : List α → α) (cs : List α) (off : Nat) : loadG mk Try.prog 100 cs off = cs[off]? := by kernel_rfl
@[simp] theorem szOf_102 : szOf Try.prog 102 = some (2) := by kernel_rfl
@[simp] theorem known_102 : known Try.prog 102 = true := by kernel_rfl
@[simp] theorem isString_102 : isString Try.prog 102 = false := by kernel_rfl
@[simp] theorem isSlice_102 : isSlice Try.prog 102 = false := by kernel_rfl
@[simp] theorem isIface_102 : isIface Try.prog 102 = some (false) := by kernel_rfl
@[simp] theorem concrete_102 : concrete Try.prog 102 = true := by kernel_rfl
@[simp] theorem bytesOf_102 : bytesOf Try.prog 102 = none := by kernel_rfl
@[simp] theorem zeroCellsOf_102 : zeroCellsOf Try.prog 102 = some [.d (.v (.pointer none)), .d (.v (.int .i64 0))] := by kernel_rfl
@[simp] theorem zeroS_102 : zeroS Try.prog 102 = some (.ag [.d (.v (.pointer none)), .d (.v (.int .i64 0))]) := by kernel_rfl
@[simp] theorem fieldOf0_102 : fieldOf Try.prog 102 0 = some 0 := by kernel_rfl
@[simp] theorem fieldTy0_102 : fieldTy Try.prog 102 0 = some (90, 0) := by kernel_rfl
@[simp] theorem placeOf0_102 : placeOf Try.prog 102 0 = some (0, 1) := by kernel_rfl
@[simp] theorem fieldOf1_102 : fieldOf Try.prog 102 1 = some 1 := by kernel_rfl
@[simp] theorem fieldTy1_102 : fieldTy Try.prog 102 1 = some (3, 1) := by kernel_rfl
@[simp] theorem placeOf1_102 : placeOf Try.prog 102 1 = some (1, 1) := by kernel_rfl
@[simp] theorem sized_102 : sized Try.prog 102 = true := by kernel_rfl
@[simp] theorem loadG_102 {α : Type} (mk : List α → α) (cs : List α) (off : Nat) : loadG mk Try.prog 102 cs off = if off + 2 ≤ cs.length then some (mk ((cs.drop off).take 2)) else none := by kernel_rfl
@[simp] theorem szOf_105 : szOf Try.prog 105 = some (4) := by kernel_rfl
@[simp] theorem known_105 : known Try.prog 105 = true := by kernel_rfl
@[simp] theorem isString_105 : isString Try.prog 105 = false := by kernel_rfl
@[simp] theorem isSlice_105 : isSlice Try.prog 105 = false := by kernel_rfl
@[simp] theorem isIface_105 : isIface Try.prog 105 = some (false) := by kernel_rfl
@[simp] theorem concrete_105 : concrete Try.prog 105 = true := by kernel_rfl
@[simp] theorem bytesOf_105 : bytesOf Try.prog 105 = none := by kernel_rfl
@[simp] theorem zeroCellsOf_105 : zeroCellsOf Try.prog 105 = some [.d (.v (.pointer none)), .d (.v (.int .i64 0)), .d (.v (.pointer none)), .d (.v (.int .i64 0))] := by kernel_rfl
@[simp] theorem zeroS_105 : zeroS Try.prog 105 = some (.ag [.d (.v (.pointer none)), .d (.v (.int .i64 0)), .d (.v (.pointer none)), .d (.v (.int .i64 0))]) := by kernel_rfl
@[simp] theorem fieldOf0_105 : fieldOf Try.prog 105 0 = some 0 := by kernel_rfl
@[simp] theorem fieldTy0_105 : fieldTy Try.prog 105 0 = some (102, 0) := by kernel_rfl
@[simp] theorem placeOf0_105 : placeOf Try.prog 105 0 = some (0, 2) := by kernel_rfl
@[simp] theorem fieldOf1_105 : fieldOf Try.prog 105 1 = some 2 := by kernel_rfl
@[simp] theorem fieldTy1_105 : fieldTy Try.prog 105 1 = some (102, 2) := by kernel_rfl
@[simp] theorem placeOf1_105 : placeOf Try.prog 105 1 = some (2, 2) := by kernel_rfl
@[simp] theorem sized_105 : sized Try.prog 105 = true := by kernel_rfl
@[simp] theorem loadG_105 {α : Type} (mk : List α → α) (cs : List α) (off : Nat) : loadG mk Try.prog 105 cs off = if off + 4 ≤ cs.length then some (mk ((cs.drop off).take 4)) else none := by kernel_rfl
@[simp] theorem szOf_106 : szOf Try.prog 106 = some (0) := by kernel_rfl
@[simp] theorem known_106 : known Try.prog 106 = true := by kernel_rfl
@[simp] theorem isString_106 : isString Try.prog 106 = false := by kernel_rfl
@[simp] theorem isSlice_106 : isSlice Try.prog 106 = false := by kernel_rfl
@[simp] theorem isIface_106 : isIface Try.prog 106 = some (false) := by kernel_rfl
@[simp] theorem concrete_106 : concrete Try.prog 106 = true := by kernel_rfl
@[simp] theorem bytesOf_106 : bytesOf Try.prog 106 = none := by kernel_rfl
@[simp] theorem zeroCellsOf_106 : zeroCellsOf Try.prog 106 = some [] := by kernel_rfl
@[simp] theorem zeroS_106 : zeroS Try.prog 106 = some (.ag []) := by kernel_rfl
@[simp] theorem sized_106 : sized Try.prog 106 = true := by kernel_rfl
@[simp] theorem loadG_106 {α : Type} (mk : List α → α) (cs : List α) (off : Nat) : loadG mk Try.prog 106 cs off = if off + 0 ≤ cs.length then some (mk ((cs.drop off).take 0)) else none := by kernel_rfl
@[simp] theorem szOf_111 : szOf Try.prog 111 = some (1) := by kernel_rfl
@[simp] theorem known_111 : known Try.prog 111 = true := by kernel_rfl
@[simp] theorem isString_111 : isString Try.prog 111 = false := by kernel_rfl
@[simp] theorem isSlice_111 : isSlice Try.prog 111 = true := by kernel_rfl
@[simp] theorem isIface_111 : isIface Try.prog 111 = some (false) := by kernel_rfl
@[simp] theorem concrete_111 : concrete Try.prog 111 = true := by kernel_rfl
@[simp] theorem bytesOf_111 : bytesOf Try.prog 111 = none := by kernel_rfl
@[simp] theorem zeroCellsOf_111 : zeroCellsOf Try.prog 111 = some [.fl [] 0] := by kernel_rfl
@[simp] theorem zeroS_111 : zeroS Try.prog 111 = some (.fl [] 0) := by kernel_rfl
@[simp] theorem elemOf_111 : Sh.elemOf Try.prog 111 = some (3, 1) := by kernel_rfl
@[simp] theorem appOf_111 : appOf Try.prog 111 = some (3, 1, 8) := by kernel_rfl
@[simp] theorem makeOf_111 : makeOf Try.prog 111 = some ([.d (.v (.int .i64 0))], 1, 8) := by kernel_rfl
@[simp] theorem zerosOf_111 : zerosOf Try.prog 111 = some ([.v (.int .i64 0)], 1) := by kernel_rfl
@[simp] theorem loadG_111 {α : Type} (mk : List α → α) (cs : List α) (off : Nat) : loadG mk Try.prog 111 cs off = cs[off]? := by kernel_rfl
@[simp] theorem szOf_113 : szOf Try.prog 113 = some (2) := by kernel_rfl
@[simp] theorem known_113 : known Try.prog 113 = true := by kernel_rfl
@[simp] theorem isString_113 : isString Try.prog 113 = false := by kernel_rfl
@[simp] theorem isSlice_113 : isSlice Try.prog 113 = false := by kernel_rfl
@[simp] theorem isIface_113 : isIface Try.prog 113 = some (false) := by kernel_rfl
@[simp] theorem concrete_113 : concrete Try.prog 113 = true := by kernel_rfl
@[simp] theorem bytesOf_113 : bytesOf Try.prog 113 = none := by kernel_rfl
@[simp] theorem zeroCellsOf_113 : zeroCellsOf Try.prog 113 = some [.fl [] 0, .fl [] 0] := by kernel_rfl
@[simp] theorem zeroS_113 : zeroS Try.prog 113 = some (.ag [.fl [] 0, .fl [] 0]) := by kernel_rfl
@[simp] theorem fieldOf0_113 : fieldOf Try.prog 113 0 = some 0 := by kernel_rfl
@[simp] theorem fieldTy0_113 : fieldTy Try.prog 113 0 = some (111, 0) := by kernel_rfl
@[simp] theorem placeOf0_113 : placeOf Try.prog 113 0 = some (0, 1) := by kernel_rfl
@[simp] theorem fieldOf1_113 : fieldOf Try.prog 113 1 = some 1 := by kernel_rfl
@[simp] theorem fieldTy1_113 : fieldTy Try.prog 113 1 = some (34, 1) := by kernel_rfl
@[simp] theorem placeOf1_113 : placeOf Try.prog 113 1 = some (1, 1) := by kernel_rfl
@[simp] theorem sized_113 : sized Try.prog 113 = true := by kernel_rfl
@[simp] theorem loadG_113 {α : Type} (mk : List α → α) (cs : List α) (off : Nat) : loadG mk Try.prog 113 cs off = if off + 2 ≤ cs.length then some (mk ((cs.drop off).take 2)) else none := by kernel_rfl
@[simp] theorem szOf_118 : szOf Try.prog 118 = some (1) := by kernel_rfl
@[simp] theorem known_118 : known Try.prog 118 = true := by kernel_rfl
@[simp] theorem isString_118 : isString Try.prog 118 = false := by kernel_rfl
@[simp] theorem isSlice_118 : isSlice Try.prog 118 = false := by kernel_rfl
@[simp] theorem isIface_118 : isIface Try.prog 118 = some (true) := by kernel_rfl
@[simp] theorem concrete_118 : concrete Try.prog 118 = false := by kernel_rfl
@[simp] theorem bytesOf_118 : bytesOf Try.prog 118 = none := by kernel_rfl
@[simp] theorem zeroCellsOf_118 : zeroCellsOf Try.prog 118 = some [.d (.v (.nilIface))] := by kernel_rfl
@[simp] theorem zeroS_118 : zeroS Try.prog 118 = some (.d (.v (.nilIface))) := by kernel_rfl
@[simp] theorem nilEqN_118 : evalNil Try.prog .eql 118 (.d (.v .nilIface)) .nilIface = some (.d (.v (.bool true))) := by kernel_rfl
@[simp] theorem nilNeN_118 : evalNil Try.prog .neq 118 (.d (.v .nilIface)) .nilIface = some (.d (.v (.bool false))) := by kernel_rfl
@[simp] theorem nilEqI_118 (t : TypeId) (x : D) : evalNil Try.prog .eql 118 (.d (.ifc t x)) .nilIface = some (.d (.v (.bool false))) := by kernel_rfl
@[simp] theorem nilNeI_118 (t : TypeId) (x : D) : evalNil Try.prog .neq 118 (.d (.ifc t x)) .nilIface = some (.d (.v (.bool true))) := by kernel_rfl
@[simp] theorem loadG_118 {α : Type} (mk : List α → α) (cs : List α) (off : Nat) : loadG mk Try.prog 118 cs off = cs[off]? := by kernel_rfl
@[simp] theorem szOf_120 : szOf Try.prog 120 = some (1) := by kernel_rfl
@[simp] theorem known_120 : known Try.prog 120 = true := by kernel_rfl
@[simp] theorem isString_120 : isString Try.prog 120 = true := by kernel_rfl
@[simp] theorem isSlice_120 : isSlice Try.prog 120 = false := by kernel_rfl
@[simp] theorem isIface_120 : isIface Try.prog 120 = some (false) := by kernel_rfl
@[simp] theorem concrete_120 : concrete Try.prog 120 = true := by kernel_rfl
@[simp] theorem bytesOf_120 : bytesOf Try.prog 120 = none := by kernel_rfl
@[simp] theorem zeroCellsOf_120 : zeroCellsOf Try.prog 120 = some [.d (.v (.string ⟨#[]⟩))] := by kernel_rfl
@[simp] theorem zeroS_120 : zeroS Try.prog 120 = some (.d (.v (.string ⟨#[]⟩))) := by kernel_rfl
@[simp] theorem loadG_120 {α : Type} (mk : List α → α) (cs : List α) (off : Nat) : loadG mk Try.prog 120 cs off = cs[off]? := by kernel_rfl
@[simp] theorem szOf_121 : szOf Try.prog 121 = some (1) := by kernel_rfl
@[simp] theorem known_121 : known Try.prog 121 = true := by kernel_rfl
@[simp] theorem isString_121 : isString Try.prog 121 = true := by kernel_rfl
@[simp] theorem isSlice_121 : isSlice Try.prog 121 = false := by kernel_rfl
@[simp] theorem isIface_121 : isIface Try.prog 121 = some (false) := by kernel_rfl
@[simp] theorem concrete_121 : concrete Try.prog 121 = true := by kernel_rfl
@[simp] theorem bytesOf_121 : bytesOf Try.prog 121 = none := by kernel_rfl
@[simp] theorem zeroCellsOf_121 : zeroCellsOf Try.prog 121 = some [.d (.v (.string ⟨#[]⟩))] := by kernel_rfl
@[simp] theorem zeroS_121 : zeroS Try.prog 121 = some (.d (.v (.string ⟨#[]⟩))) := by kernel_rfl
@[simp] theorem loadG_121 {α : Type} (mk : List α → α) (cs : List α) (off : Nat) : loadG mk Try.prog 121 cs off = cs[off]? := by kernel_rfl
@[simp] theorem szOf_124 : szOf Try.prog 124 = some (2) := by kernel_rfl
@[simp] theorem known_124 : known Try.prog 124 = true := by kernel_rfl
@[simp] theorem isString_124 : isString Try.prog 124 = false := by kernel_rfl
@[simp] theorem isSlice_124 : isSlice Try.prog 124 = false := by kernel_rfl
@[simp] theorem isIface_124 : isIface Try.prog 124 = some (false) := by kernel_rfl
@[simp] theorem concrete_124 : concrete Try.prog 124 = true := by kernel_rfl
@[simp] theorem bytesOf_124 : bytesOf Try.prog 124 = none := by kernel_rfl
@[simp] theorem zeroCellsOf_124 : zeroCellsOf Try.prog 124 = some [.fl [] 0, .d (.v (.int .i64 0))] := by kernel_rfl
@[simp] theorem zeroS_124 : zeroS Try.prog 124 = some (.ag [.fl [] 0, .d (.v (.int .i64 0))]) := by kernel_rfl
@[simp] theorem fieldOf0_124 : fieldOf Try.prog 124 0 = some 0 := by kernel_rfl
@[simp] theorem fieldTy0_124 : fieldTy Try.prog 124 0 = some (54, 0) := by kernel_rfl
@[simp] theorem placeOf0_124 : placeOf Try.prog 124 0 = some (0, 1) := by kernel_rfl
@[simp] theorem fieldOf1_124 : fieldOf Try.prog 124 1 = some 1 := by kernel_rfl
@[simp] theorem fieldTy1_124 : fieldTy Try.prog 124 1 = some (3, 1) := by kernel_rfl
@[simp] theorem placeOf1_124 : placeOf Try.prog 124 1 = some (1, 1) := by kernel_rfl
@[simp] theorem sized_124 : sized Try.prog 124 = true := by kernel_rfl
@[simp] theorem loadG_124 {α : Type} (mk : List α → α) (cs : List α) (off : Nat) : loadG mk Try.prog 124 cs off = if off + 2 ≤ cs.length then some (mk ((cs.drop off).take 2)) else none := by kernel_rfl
@[simp] theorem szOf_128 : szOf Try.prog 128 = some (1) := by kernel_rfl
@[simp] theorem known_128 : known Try.prog 128 = true := by kernel_rfl
@[simp] theorem isString_128 : isString Try.prog 128 = false := by kernel_rfl
@[simp] theorem isSlice_128 : isSlice Try.prog 128 = false := by kernel_rfl
@[simp] theorem isIface_128 : isIface Try.prog 128 = some (false) := by kernel_rfl
@[simp] theorem concrete_128 : concrete Try.prog 128 = true := by kernel_rfl
@[simp] theorem bytesOf_128 : bytesOf Try.prog 128 = none := by kernel_rfl
@[simp] theorem zeroCellsOf_128 : zeroCellsOf Try.prog 128 = some [.d (.v (.pointer none))] := by kernel_rfl
@[simp] theorem zeroS_128 : zeroS Try.prog 128 = some (.d (.v (.pointer none))) := by kernel_rfl
@[simp] theorem nilEqN_128 : evalNil Try.prog .eql 128 (.d (.v (.pointer none))) (.pointer none) = some (.d (.v (.bool true))) := by kernel_rfl
@[simp] theorem nilNeN_128 : evalNil Try.prog .neq 128 (.d (.v (.pointer none))) (.pointer none) = some (.d (.v (.bool false))) := by kernel_rfl
@[simp] theorem nilEqO_128 (b off : Nat) : evalNil Try.prog .eql 128 (.op b off) (.pointer none) = some (.d (.v (.bool false))) := by kernel_rfl
@[simp] theorem nilNeO_128 (b off : Nat) : evalNil Try.prog .neq 128 (.op b off) (.pointer none) = some (.d (.v (.bool true))) := by kernel_rfl
@[simp] theorem nilEqP_128 (cs : List D) (off : Nat) : evalNil Try.prog .eql 128 (.d (.pp cs off)) (.pointer none) = some (.d (.v (.bool false))) := by kernel_rfl
@[simp] theorem nilNeP_128 (cs : List D) (off : Nat) : evalNil Try.prog .neq 128 (.d (.pp cs off)) (.pointer none) = some (.d (.v (.bool true))) := by kernel_rfl
@[simp] theorem loadG_128 {α : Type} (mk : List α → α) (cs : List α) (off : Nat) : loadG mk Try.prog 128 cs off = cs[off]? := by kernel_rfl
@[simp] theorem szOf_130 : szOf Try.prog 130 = some (4) := by kernel_rfl
@[simp] theorem known_130 : known Try.prog 130 = true := by kernel_rfl
@[simp] theorem isString_130 : isString Try.prog 130 = false := by kernel_rfl
@[simp] theorem isSlice_130 : isSlice Try.prog 130 = false := by kernel_rfl
@[simp] theorem isIface_130 : isIface Try.prog 130 = some (false) := by kernel_rfl
@[simp] theorem concrete_130 : concrete Try.prog 130 = true := by kernel_rfl
@[simp] theorem bytesOf_130 : bytesOf Try.prog 130 = none := by kernel_rfl
@[simp] theorem zeroCellsOf_130 : zeroCellsOf Try.prog 130 = some [.d (.v (.pointer none)), .d (.v (.int .i64 0)), .fl [] 0, .d (.v (.pointer none))] := by kernel_rfl
@[simp] theorem zeroS_130 : zeroS Try.prog 130 = some (.ag [.d (.v (.pointer none)), .d (.v (.int .i64 0)), .fl [] 0, .d (.v (.pointer none))]) := by kernel_rfl
@[simp] theorem fieldOf0_130 : fieldOf Try.prog 130 0 = some 0 := by kernel_rfl
@[simp] theorem fieldTy0_130 : fieldTy Try.prog 130 0 = some (102, 0) := by kernel_rfl
@[simp] theorem placeOf0_130 : placeOf Try.prog 130 0 = some (0, 2) := by kernel_rfl
@[simp] theorem fieldOf1_130 : fieldOf Try.prog 130 1 = some 2 := by kernel_rfl
@[simp] theorem fieldTy1_130 : fieldTy Try.prog 130 1 = some (38, 2) := by kernel_rfl
@[simp] theorem placeOf1_130 : placeOf Try.prog 130 1 = some (2, 1) := by kernel_rfl
@[simp] theorem fieldOf2_130 : fieldOf Try.prog 130 2 = some 3 := by kernel_rfl
@[simp] theorem fieldTy2_130 : fieldTy Try.prog 130 2 = some (128, 3) := by kernel_rfl
@[simp] theorem placeOf2_130 : placeOf Try.prog 130 2 = some (3, 1) := by kernel_rfl
@[simp] theorem sized_130 : sized Try.prog 130 = true := by kernel_rfl
@[simp] theorem loadG_130 {α : Type} (mk : List α → α) (cs : List α) (off : Nat) : loadG mk Try.prog 130 cs off = if off + 4 ≤ cs.length then some (mk ((cs.drop off).take 4)) else none := by kernel_rfl
@[simp] theorem szOf_131 : szOf Try.prog 131 = some (0) := by kernel_rfl
@[simp] theorem known_131 : known Try.prog 131 = true := by kernel_rfl
@[simp] theorem isString_131 : isString Try.prog 131 = false := by kernel_rfl
@[simp] theorem isSlice_131 : isSlice Try.prog 131 = false := by kernel_rfl
@[simp] theorem isIface_131 : isIface Try.prog 131 = some (false) := by kernel_rfl
@[simp] theorem concrete_131 : concrete Try.prog 131 = true := by kernel_rfl
@[simp] theorem bytesOf_131 : bytesOf Try.prog 131 = none := by kernel_rfl
@[simp] theorem zeroCellsOf_131 : zeroCellsOf Try.prog 131 = some [] := by kernel_rfl
@[simp] theorem zeroS_131 : zeroS Try.prog 131 = some (.ag []) := by kernel_rfl
@[simp] theorem sized_131 : sized Try.prog 131 = true := by kernel_rfl
@[simp] theorem loadG_131 {α : Type} (mk : List α → α) (cs : List α) (off : Nat) : loadG mk Try.prog 131 cs off = if off + 0 ≤ cs.length then some (mk ((cs.drop off).take 0)) else none := by kernel_rfl
@[simp] theorem szOf_132 : szOf Try.prog 132 = some (1) := by kernel_rfl
@[simp] theorem known_132 : known Try.prog 132 = true := by kernel_rfl
@[simp] theorem isString_132 : isString Try.prog 132 = false := by kernel_rfl
@[simp] theorem isSlice_132 : isSlice Try.prog 132 = false := by kernel_rfl
@[simp] theorem isIface_132 : isIface Try.prog 132 = some (false) := by kernel_rfl
@[simp] theorem concrete_132 : concrete Try.prog 132 = true := by kernel_rfl
@[simp] theorem bytesOf_132 : bytesOf Try.prog 132 = none := by kernel_rfl
@[simp] theorem zeroCellsOf_132 : zeroCellsOf Try.prog 132 = some [.d (.v (.bool false))] := by kernel_rfl
@[simp] theorem zeroS_132 : zeroS Try.prog 132 = some (.d (.v (.bool false))) := by kernel_rfl
@[simp] theorem boolEq_132 (a b : Bool) : binS Try.prog .eql 132 (.bool a) (.bool b) = some (.bool (a == b)) := by kernel_rfl
@[simp] theorem boolNe_132 (a b : Bool) : binS Try.prog .neq 132 (.bool a) (.bool b) = some (.bool (!(a == b))) := by kernel_rfl
@[simp] theorem loadG_132 {α : Type} (mk : List α → α) (cs : List α) (off : Nat) : loadG mk Try.prog 132 cs off = cs[off]? := by kernel_rfl
@[simp] theorem szOf_133 : szOf Try.prog 133 = some (1) := by kernel_rfl
@[simp] theorem known_133 : known Try.prog 133 = true := by kernel_rfl
@[simp] theorem isString_133 : isString Try.prog 133 = false := by kernel_rfl
@[simp] theorem isSlice_133 : isSlice Try.prog 133 = false := by kernel_rfl
@[simp] theorem isIface_133 : isIface Try.prog 133 = some (false) := by kernel_rfl
@[simp] theorem concrete_133 : concrete Try.prog 133 = true := by kernel_rfl
@[simp] theorem bytesOf_133 : bytesOf Try.prog 133 = none := by kernel_rfl
@[simp] theorem zeroCellsOf_133 : zeroCellsOf Try.prog 133 = some [.d (.v (.int .i64 0))] := by kernel_rfl
@[simp] theorem zeroS_133 : zeroS Try.prog 133 = some (.d (.v (.int .i64 0))) := by kernel_rfl
@[simp] theorem intKindOf_133 : intKindOf Try.prog 133 = some .i64 := by kernel_rfl
@[simp] theorem loadG_133 {α : Type} (mk : List α → α) (cs : List α) (off : Nat) : loadG mk Try.prog 133 cs off = cs[off]? := by kernel_rfl
@[simp] theorem szOf_134 : szOf Try.prog 134 = some (1) := by kernel_rfl
@[simp] theorem known_134 : known Try.prog 134 = true := by kernel_rfl
@[simp] theorem isString_134 : isString Try.prog 134 = true := by kernel_rfl
@[simp] theorem isSlice_134 : isSlice Try.prog 134 = false := by kernel_rfl
@[simp] theorem isIface_134 : isIface Try.prog 134 = some (false) := by kernel_rfl
@[simp] theorem concrete_134 : concrete Try.prog 134 = true := by kernel_rfl
@[simp] theorem bytesOf_134 : bytesOf Try.prog 134 = none := by kernel_rfl
@[simp] theorem zeroCellsOf_134 : zeroCellsOf Try.prog 134 = some [.d (.v (.string ⟨#[]⟩))] := by kernel_rfl
@[simp] theorem zeroS_134 : zeroS Try.prog 134 = some (.d (.v (.string ⟨#[]⟩))) := by kernel_rfl
@[simp] theorem loadG_134 {α : Type} (mk : List α → α) (cs : List α) (off : Nat) : loadG mk Try.prog 134 cs off = cs[off]? := by kernel_rfl
@[simp] theorem szOf_135 : szOf Try.prog 135 = some (1) := by kernel_rfl
@[simp] theorem known_135 : known Try.prog 135 = true := by kernel_rfl
@[simp] theorem isString_135 : isString Try.prog 135 = false := by kernel_rfl
@[simp] theorem isSlice_135 : isSlice Try.prog 135 = true := by kernel_rfl
@[simp] theorem isIface_135 : isIface Try.prog 135 = some (false) := by kernel_rfl
@[simp] theorem concrete_135 : concrete Try.prog 135 = true := by kernel_rfl
@[simp] theorem bytesOf_135 : bytesOf Try.prog 135 = none := by kernel_rfl
@[simp] theorem zeroCellsOf_135 : zeroCellsOf Try.prog 135 = some [.fl [] 0] := by kernel_rfl
@[simp] theorem zeroS_135 : zeroS Try.prog 135 = some (.fl [] 0) := by kernel_rfl
@[simp] theorem elemOf_135 : Sh.elemOf Try.prog 135 = some (40, 5) := by kernel_rfl
@[simp] theorem appOf_135 : appOf Try.prog 135 = some (40, 5, 80) := by kernel_rfl
@[simp] theorem makeOf_135 : makeOf Try.prog 135 = some ([.d (.v (.int .i64 0)), .d (.v (.int .i64 0)), .d (.v (.string ⟨#[]⟩)), .fl [] 0, .fl [] 0], 5, 80) := by kernel_rfl
@[simp] theorem zerosOf_135 : zerosOf Try.prog 135 = some ([.v (.int .i64 0), .v (.int .i64 0), .v (.string ⟨#[]⟩), .ps [] 0, .ps [] 0], 5) := by kernel_rfl
@[simp] theorem loadG_135 {α : Type} (mk : List α → α) (cs : List α) (off : Nat) : loadG mk Try.prog 135 cs off = cs[off]? := by kernel_rfl
@[simp] theorem szOf_137 : szOf Try.prog 137 = some (2) := by kernel_rfl
@[simp] theorem known_137 : known Try.prog 137 = true := by kernel_rfl
@[simp] theorem isString_137 : isString Try.prog 137 = false := by kernel_rfl
@[simp] theorem isSlice_137 : isSlice Try.prog 137 = false := by kernel_rfl
@[simp] theorem isIface_137 : isIface Try.prog 137 = some (false) := by kernel_rfl
@[simp] theorem concrete_137 : concrete Try.prog 137 = true := by kernel_rfl
@[simp] theorem bytesOf_137 : bytesOf Try.prog 137 = none := by kernel_rfl
@[simp] theorem zeroCellsOf_137 : zeroCellsOf Try.prog 137 = some [.fl [] 0, .fl [] 0] := by kernel_rfl
@[simp] theorem zeroS_137 : zeroS Try.prog 137 = some (.ag [.fl [] 0, .fl [] 0]) := by kernel_rfl
@[simp] theorem fieldOf0_137 : fieldOf Try.prog 137 0 = some 0 := by kernel_rfl
@[simp] theorem fieldTy0_137 : fieldTy Try.prog 137 0 = some (22, 0) := by kernel_rfl
@[simp] theorem placeOf0_137 : placeOf Try.prog 137 0 = some (0, 1) := by kernel_rfl
@[simp] theorem fieldOf1_137 : fieldOf Try.prog 137 1 = some 1 := by kernel_rfl
@[simp] theorem fieldTy1_137 : fieldTy Try.prog 137 1 = some (38, 1) := by kernel_rfl
@[simp] theorem placeOf1_137 : placeOf Try.prog 137 1 = some (1, 1) := by kernel_rfl
@[simp] theorem sized_137 : sized Try.prog 137 = true := by kernel_rfl
@[simp] theorem loadG_137 {α : Type} (mk : List α → α) (cs : List α) (off : Nat) : loadG mk Try.prog 137 cs off = if off + 2 ≤ cs.length then some (mk ((cs.drop off).take 2)) else none := by kernel_rfl
end Go.Proofs.Ytocjkeieieknbaa
