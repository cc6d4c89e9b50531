/- The facts of the program's types, as the shadow asks for them. -/
import Derived.Test.YtghbkljdpikpdaaShO
import Derived.Test.YtghbkljdpikpdaaProg
set_option linter.unusedVariables false
set_option linter.unusedSimpArgs false
set_option maxRecDepth 100000
namespace Go.Proofs.Ytghbkljdpikpdaa
open Go.Sh
@[simp] theorem szOf_3 : szOf Try.prog 3 = some (1) := by kernel_rfl
@[simp] theorem known_3 : known Try.prog 3 = true := by kernel_rfl
@[simp] theorem isString_3 : isString Try.prog 3 = false := by kernel_rfl
@[simp] theorem isSlice_3 : isSlice Try.prog 3 = false := by kernel_rfl
@[simp] theorem isIface_3 : isIface Try.prog 3 = some (false) := by kernel_rfl
@[simp] theorem concrete_3 : concrete Try.prog 3 = true := by kernel_rfl
@[simp] theorem bytesOf_3 : bytesOf Try.prog 3 = none := by kernel_rfl
@[simp] theorem zeroCellsOf_3 : zeroCellsOf Try.prog 3 = some [.d (.v (.int .i64 0))] := by kernel_rfl
@[simp] theorem zeroS_3 : zeroS Try.prog 3 = some (.d (.v (.int .i64 0))) := by kernel_rfl
@[simp] theorem intKindOf_3 : intKindOf Try.prog 3 = some .i64 := by kernel_rfl
@[simp] theorem loadG_3 {α : Type} (mk : List α → α) (cs : List α) (off : Nat) : loadG mk Try.prog 3 cs off = cs[off]? := by kernel_rfl
@[simp] theorem szOf_4 : szOf Try.prog 4 = some (1) := by kernel_rfl
@[simp] theorem known_4 : known Try.prog 4 = true := by kernel_rfl
@[simp] theorem isString_4 : isString Try.prog 4 = false := by kernel_rfl
@[simp] theorem isSlice_4 : isSlice Try.prog 4 = false := by kernel_rfl
@[simp] theorem isIface_4 : isIface Try.prog 4 = some (false) := by kernel_rfl
@[simp] theorem concrete_4 : concrete Try.prog 4 = true := by kernel_rfl
@[simp] theorem bytesOf_4 : bytesOf Try.prog 4 = none := by kernel_rfl
@[simp] theorem zeroCellsOf_4 : zeroCellsOf Try.prog 4 = some [.d (.v (.bool false))] := by kernel_rfl
@[simp] theorem zeroS_4 : zeroS Try.prog 4 = some (.d (.v (.bool false))) := by kernel_rfl
@[simp] theorem boolEq_4 (a b : Bool) : binS Try.prog .eql 4 (.bool a) (.bool b) = some (.bool (a == b)) := by kernel_rfl
@[simp] theorem boolNe_4 (a b : Bool) : binS Try.prog .neq 4 (.bool a) (.bool b) = some (.bool (!(a == b))) := by kernel_rfl
@[simp] theorem loadG_4 {α : Type} (mk : List α → α) (cs : List α) (off : Nat) : loadG mk Try.prog 4 cs off = cs[off]? := by kernel_rfl
@[simp] theorem szOf_5 : szOf Try.prog 5 = some (1) := by kernel_rfl
@[simp] theorem known_5 : known Try.prog 5 = true := by kernel_rfl
@[simp] theorem isString_5 : isString Try.prog 5 = false := by kernel_rfl
@[simp] theorem isSlice_5 : isSlice Try.prog 5 = false := by kernel_rfl
@[simp] theorem isIface_5 : isIface Try.prog 5 = some (false) := by kernel_rfl
@[simp] theorem concrete_5 : concrete Try.prog 5 = true := by kernel_rfl
@[simp] theorem bytesOf_5 : bytesOf Try.prog 5 = none := by kernel_rfl
@[simp] theorem zeroCellsOf_5 : zeroCellsOf Try.prog 5 = some [.d (.v (.int .u8 0))] := by kernel_rfl
@[simp] theorem zeroS_5 : zeroS Try.prog 5 = some (.d (.v (.int .u8 0))) := by kernel_rfl
@[simp] theorem intKindOf_5 : intKindOf Try.prog 5 = some .u8 := by kernel_rfl
@[simp] theorem loadG_5 {α : Type} (mk : List α → α) (cs : List α) (off : Nat) : loadG mk Try.prog 5 cs off = cs[off]? := by kernel_rfl
@[simp] theorem szOf_9 : szOf Try.prog 9 = some (1) := by kernel_rfl
@[simp] theorem known_9 : known Try.prog 9 = true := by kernel_rfl
@[simp] theorem isString_9 : isString Try.prog 9 = true := by kernel_rfl
@[simp] theorem isSlice_9 : isSlice Try.prog 9 = false := by kernel_rfl
@[simp] theorem isIface_9 : isIface Try.prog 9 = some (false) := by kernel_rfl
@[simp] theorem concrete_9 : concrete Try.prog 9 = true := by kernel_rfl
@[simp] theorem bytesOf_9 : bytesOf Try.prog 9 = none := by kernel_rfl
@[simp] theorem zeroCellsOf_9 : zeroCellsOf Try.prog 9 = some [.d (.v (.string ⟨#[]⟩))] := by kernel_rfl
@[simp] theorem zeroS_9 : zeroS Try.prog 9 = some (.d (.v (.string ⟨#[]⟩))) := by kernel_rfl
@[simp] theorem loadG_9 {α : Type} (mk : List α → α) (cs : List α) (off : Nat) : loadG mk Try.prog 9 cs off = cs[off]? := by kernel_rfl
@[simp] theorem szOf_22 : szOf Try.prog 22 = some (1) := by kernel_rfl
@[simp] theorem known_22 : known Try.prog 22 = true := by kernel_rfl
@[simp] theorem isString_22 : isString Try.prog 22 = false := by kernel_rfl
@[simp] theorem isSlice_22 : isSlice Try.prog 22 = true := by kernel_rfl
@[simp] theorem isIface_22 : isIface Try.prog 22 = some (false) := by kernel_rfl
@[simp] theorem concrete_22 : concrete Try.prog 22 = true := by kernel_rfl
@[simp] theorem bytesOf_22 : bytesOf Try.prog 22 = none := by kernel_rfl
@[simp] theorem zeroCellsOf_22 : zeroCellsOf Try.prog 22 = some [.fl [] 0] := by kernel_rfl
@[simp] theorem zeroS_22 : zeroS Try.prog 22 = some (.fl [] 0) := by kernel_rfl
@[simp] theorem elemOf_22 : Sh.elemOf Try.prog 22 = some (61, 7) := by kernel_rfl
@[simp] theorem appOf_22 : appOf Try.prog 22 = some (61, 7, 104) := by kernel_rfl
@[simp] theorem makeOf_22 : makeOf Try.prog 22 = some ([.d (.v (.int .i64 0)), .d (.v (.string ⟨#[]⟩)), .d (.v (.int .i64 0)), .d (.v (.int .i64 0)), .d (.v (.string ⟨#[]⟩)), .fl [] 0, .fl [] 0], 7, 104) := by kernel_rfl
@[simp] theorem zerosOf_22 : zerosOf Try.prog 22 = some ([.v (.int .i64 0), .v (.string ⟨#[]⟩), .v (.int .i64 0), .v (.int .i64 0), .v (.string ⟨#[]⟩), .ps [] 0, .ps [] 0], 7) := by kernel_rfl
@[simp] theorem loadG_22 {α : Type} (mk : List α → α) (cs : List α) (off : Nat) : loadG mk Try.prog 22 cs off = cs[off]? := by kernel_rfl
@[simp] theorem szOf_24 : szOf Try.prog 24 = some (1) := by kernel_rfl
@[simp] theorem known_24 : known Try.prog 24 = true := by kernel_rfl
@[simp] theorem isString_24 : isString Try.prog 24 = false := by kernel_rfl
@[simp] theorem isSlice_24 : isSlice Try.prog 24 = true := by kernel_rfl
@[simp] theorem isIface_24 : isIface Try.prog 24 = some (false) := by kernel_rfl
@[simp] theorem concrete_24 : concrete Try.prog 24 = true := by kernel_rfl
@[simp] theorem bytesOf_24 : bytesOf Try.prog 24 = none := by kernel_rfl
@[simp] theorem zeroCellsOf_24 : zeroCellsOf Try.prog 24 = some [.fl [] 0] := by kernel_rfl
@[simp] theorem zeroS_24 : zeroS Try.prog 24 = some (.fl [] 0) := by kernel_rfl
@[simp] theorem elemOf_24 : Sh.elemOf Try.prog 24 = some (27, 5) := by kernel_rfl
@[simp] theorem appOf_24 : appOf Try.prog 24 = some (27, 5, 80) := by kernel_rfl
@[simp] theorem makeOf_24 : makeOf Try.prog 24 = some ([.d (.v (.int .i64 0)), .d (.v (.int .i64 0)), .d (.v (.string ⟨#[]⟩)), .fl [] 0, .fl [] 0], 5, 80) := by kernel_rfl
@[simp] theorem zerosOf_24 : zerosOf Try.prog 24 = some ([.v (.int .i64 0), .v (.int .i64 0), .v (.string ⟨#[]⟩), .ps [] 0, .ps [] 0], 5) := by kernel_rfl
@[simp] theorem loadG_24 {α : Type} (mk : List α → α) (cs : List α) (off : Nat) : loadG mk Try.prog 24 cs off = cs[off]? := by kernel_rfl
@[simp] theorem szOf_25 : szOf Try.prog 25 = some (1) := by kernel_rfl
@[simp] theorem known_25 : known Try.prog 25 = true := by kernel_rfl
@[simp] theorem isString_25 : isString Try.prog 25 = false := by kernel_rfl
@[simp] theorem isSlice_25 : isSlice Try.prog 25 = true := by kernel_rfl
@[simp] theorem isIface_25 : isIface Try.prog 25 = some (false) := by kernel_rfl
@[simp] theorem concrete_25 : concrete Try.prog 25 = true := by kernel_rfl
@[simp] theorem bytesOf_25 : bytesOf Try.prog 25 = none := by kernel_rfl
@[simp] theorem zeroCellsOf_25 : zeroCellsOf Try.prog 25 = some [.fl [] 0] := by kernel_rfl
@[simp] theorem zeroS_25 : zeroS Try.prog 25 = some (.fl [] 0) := by kernel_rfl
@[simp] theorem elemOf_25 : Sh.elemOf Try.prog 25 = some (9, 1) := by kernel_rfl
@[simp] theorem appOf_25 : appOf Try.prog 25 = some (9, 1, 16) := by kernel_rfl
@[simp] theorem makeOf_25 : makeOf Try.prog 25 = some ([.d (.v (.string ⟨#[]⟩))], 1, 16) := by kernel_rfl
@[simp] theorem zerosOf_25 : zerosOf Try.prog 25 = some ([.v (.string ⟨#[]⟩)], 1) := by kernel_rfl
@[simp] theorem loadG_25 {α : Type} (mk : List α → α) (cs : List α) (off : Nat) : loadG mk Try.prog 25 cs off = cs[off]? := by kernel_rfl
@[simp] theorem szOf_27 : szOf Try.prog 27 = some (5) := by kernel_rfl
@[simp] theorem known_27 : known Try.prog 27 = true := by kernel_rfl
@[simp] theorem isString_27 : isString Try.prog 27 = false := by kernel_rfl
@[simp] theorem isSlice_27 : isSlice Try.prog 27 = false := by kernel_rfl
@[simp] theorem isIface_27 : isIface Try.prog 27 = some (false) := by kernel_rfl
@[simp] theorem concrete_27 : concrete Try.prog 27 = true := by kernel_rfl
@[simp] theorem bytesOf_27 : bytesOf Try.prog 27 = none := by kernel_rfl
@[simp] theorem zeroCellsOf_27 : zeroCellsOf Try.prog 27 = some [.d (.v (.int .i64 0)), .d (.v (.int .i64 0)), .d (.v (.string ⟨#[]⟩)), .fl [] 0, .fl [] 0] := by kernel_rfl
@[simp] theorem zeroS_27 : zeroS Try.prog 27 = some (.ag [.d (.v (.int .i64 0)), .d (.v (.int .i64 0)), .d (.v (.string ⟨#[]⟩)), .fl [] 0, .fl [] 0]) := by kernel_rfl
@[simp] theorem fieldOf0_27 : fieldOf Try.prog 27 0 = some 0 := by kernel_rfl
@[simp] theorem fieldTy0_27 : fieldTy Try.prog 27 0 = some (3, 0) := by kernel_rfl
@[simp] theorem placeOf0_27 : placeOf Try.prog 27 0 = some (0, 1) := by kernel_rfl
@[simp] theorem fieldOf1_27 : fieldOf Try.prog 27 1 = some 1 := by kernel_rfl
@[simp] theorem fieldTy1_27 : fieldTy Try.prog 27 1 = some (3, 1) := by kernel_rfl
@[simp] theorem placeOf1_27 : placeOf Try.prog 27 1 = some (1, 1) := by kernel_rfl
@[simp] theorem fieldOf2_27 : fieldOf Try.prog 27 2 = some 2 := by kernel_rfl
@[simp] theorem fieldTy2_27 : fieldTy Try.prog 27 2 = some (9, 2) := by kernel_rfl
@[simp] theorem placeOf2_27 : placeOf Try.prog 27 2 = some (2, 1) := by kernel_rfl
@[simp] theorem fieldOf3_27 : fieldOf Try.prog 27 3 = some 3 := by kernel_rfl
@[simp] theorem fieldTy3_27 : fieldTy Try.prog 27 3 = some (24, 3) := by kernel_rfl
@[simp] theorem placeOf3_27 : placeOf Try.prog 27 3 = some (3, 1) := by kernel_rfl
@[simp] theorem fieldOf4_27 : fieldOf Try.prog 27 4 = some 4 := by kernel_rfl
@[simp] theorem fieldTy4_27 : fieldTy Try.prog 27 4 = some (25, 4) := by kernel_rfl
@[simp] theorem placeOf4_27 : placeOf Try.prog 27 4 = some (4, 1) := by kernel_rfl
@[simp] theorem sized_27 : sized Try.prog 27 = true := by kernel_rfl
@[simp] theorem loadG_27 {α : Type} (mk : List α → α) (cs : List α) (off : Nat) : loadG mk Try.prog 27 cs off = if off + 5 ≤ cs.length then some (mk ((cs.drop off).take 5)) else none := by kernel_rfl
@[simp] theorem szOf_29 : szOf Try.prog 29 = some (1) := by kernel_rfl
@[simp] theorem known_29 : known Try.prog 29 = true := by kernel_rfl
@[simp] theorem isString_29 : isString Try.prog 29 = false := by kernel_rfl
@[simp] theorem isSlice_29 : isSlice Try.prog 29 = true := by kernel_rfl
@[simp] theorem isIface_29 : isIface Try.prog 29 = some (false) := by kernel_rfl
@[simp] theorem concrete_29 : concrete Try.prog 29 = true := by kernel_rfl
@[simp] theorem bytesOf_29 : bytesOf Try.prog 29 = none := by kernel_rfl
@[simp] theorem zeroCellsOf_29 : zeroCellsOf Try.prog 29 = some [.fl [] 0] := by kernel_rfl
@[simp] theorem zeroS_29 : zeroS Try.prog 29 = some (.fl [] 0) := by kernel_rfl
@[simp] theorem elemOf_29 : Sh.elemOf Try.prog 29 = some (48, 7) := by kernel_rfl
@[simp] theorem appOf_29 : appOf Try.prog 29 = some (48, 7, 104) := by kernel_rfl
@[simp] theorem makeOf_29 : makeOf Try.prog 29 = some ([.d (.v (.int .i64 0)), .d (.v (.string ⟨#[]⟩)), .d (.v (.int .i64 0)), .d (.v (.int .i64 0)), .d (.v (.string ⟨#[]⟩)), .fl [] 0, .fl [] 0], 7, 104) := by kernel_rfl
@[simp] theorem zerosOf_29 : zerosOf Try.prog 29 = some ([.v (.int .i64 0), .v (.string ⟨#[]⟩), .v (.int .i64 0), .v (.int .i64 0), .v (.string ⟨#[]⟩), .ps [] 0, .ps [] 0], 7) := by kernel_rfl
@[simp] theorem loadG_29 {α : Type} (mk : List α → α) (cs : List α) (off : Nat) : loadG mk Try.prog 29 cs off = cs[off]? := by kernel_rfl
@[simp] theorem szOf_36 : szOf Try.prog 36 = some (1) := by kernel_rfl
@[simp] theorem known_36 : known Try.prog 36 = true := by kernel_rfl
@[simp] theorem isString_36 : isString Try.prog 36 = false := by kernel_rfl
@[simp] theorem isSlice_36 : isSlice Try.prog 36 = true := by kernel_rfl
@[simp] theorem isIface_36 : isIface Try.prog 36 = some (false) := by kernel_rfl
@[simp] theorem concrete_36 : concrete Try.prog 36 = true := by kernel_rfl
@[simp] theorem bytesOf_36 : bytesOf Try.prog 36 = none := by kernel_rfl
@[simp] theorem zeroCellsOf_36 : zeroCellsOf Try.prog 36 = some [.fl [] 0] := by kernel_rfl
@[simp] theorem zeroS_36 : zeroS Try.prog 36 = some (.fl [] 0) := by kernel_rfl
@[simp] theorem elemOf_36 : Sh.elemOf Try.prog 36 = some (38, 5) := by kernel_rfl
@[simp] theorem appOf_36 : appOf Try.prog 36 = some (38, 5, 80) := by kernel_rfl
@[simp] theorem makeOf_36 : makeOf Try.prog 36 = some ([.d (.v (.int .i64 0)), .d (.v (.int .i64 0)), .d (.v (.string ⟨#[]⟩)), .fl [] 0, .fl [] 0], 5, 80) := by kernel_rfl
@[simp] theorem zerosOf_36 : zerosOf Try.prog 36 = some ([.v (.int .i64 0), .v (.int .i64 0), .v (.string ⟨#[]⟩), .ps [] 0, .ps [] 0], 5) := by kernel_rfl
@[simp] theorem loadG_36 {α : Type} (mk : List α → α) (cs : List α) (off : Nat) : loadG mk Try.prog 36 cs off = cs[off]? := by kernel_rfl
@[simp] theorem szOf_38 : szOf Try.prog 38 = some (5) := by kernel_rfl
@[simp] theorem known_38 : known Try.prog 38 = true := by kernel_rfl
@[simp] theorem isString_38 : isString Try.prog 38 = false := by kernel_rfl
@[simp] theorem isSlice_38 : isSlice Try.prog 38 = false := by kernel_rfl
@[simp] theorem isIface_38 : isIface Try.prog 38 = some (false) := by kernel_rfl
@[simp] theorem concrete_38 : concrete Try.prog 38 = true := by kernel_rfl
@[simp] theorem bytesOf_38 : bytesOf Try.prog 38 = none := by kernel_rfl
@[simp] theorem zeroCellsOf_38 : zeroCellsOf Try.prog 38 = some [.d (.v (.int .i64 0)), .d (.v (.int .i64 0)), .d (.v (.string ⟨#[]⟩)), .fl [] 0, .fl [] 0] := by kernel_rfl
@[simp] theorem zeroS_38 : zeroS Try.prog 38 = some (.ag [.d (.v (.int .i64 0)), .d (.v (.int .i64 0)), .d (.v (.string ⟨#[]⟩)), .fl [] 0, .fl [] 0]) := by kernel_rfl
@[simp] theorem fieldOf0_38 : fieldOf Try.prog 38 0 = some 0 := by kernel_rfl
@[simp] theorem fieldTy0_38 : fieldTy Try.prog 38 0 = some (3, 0) := by kernel_rfl
@[simp] theorem placeOf0_38 : placeOf Try.prog 38 0 = some (0, 1) := by kernel_rfl
@[simp] theorem fieldOf1_38 : fieldOf Try.prog 38 1 = some 1 := by kernel_rfl
@[simp] theorem fieldTy1_38 : fieldTy Try.prog 38 1 = some (3, 1) := by kernel_rfl
@[simp] theorem placeOf1_38 : placeOf Try.prog 38 1 = some (1, 1) := by kernel_rfl
@[simp] theorem fieldOf2_38 : fieldOf Try.prog 38 2 = some 2 := by kernel_rfl
@[simp] theorem fieldTy2_38 : fieldTy Try.prog 38 2 = some (9, 2) := by kernel_rfl
@[simp] theorem placeOf2_38 : placeOf Try.prog 38 2 = some (2, 1) := by kernel_rfl
@[simp] theorem fieldOf3_38 : fieldOf Try.prog 38 3 = some 3 := by kernel_rfl
@[simp] theorem fieldTy3_38 : fieldTy Try.prog 38 3 = some (36, 3) := by kernel_rfl
@[simp] theorem placeOf3_38 : placeOf Try.prog 38 3 = some (3, 1) := by kernel_rfl
@[simp] theorem fieldOf4_38 : fieldOf Try.prog 38 4 = some 4 := by kernel_rfl
@[simp] theorem fieldTy4_38 : fieldTy Try.prog 38 4 = some (25, 4) := by kernel_rfl
@[simp] theorem placeOf4_38 : placeOf Try.prog 38 4 = some (4, 1) := by kernel_rfl
@[simp] theorem sized_38 : sized Try.prog 38 = true := by kernel_rfl
@[simp] theorem loadG_38 {α : Type} (mk : List α → α) (cs : List α) (off : Nat) : loadG mk Try.prog 38 cs off = if off + 5 ≤ cs.length then some (mk ((cs.drop off).take 5)) else none := by kernel_rfl
@[simp] theorem szOf_44 : szOf Try.prog 44 = some (1) := by kernel_rfl
@[simp] theorem known_44 : known Try.prog 44 = true := by kernel_rfl
@[simp] theorem isString_44 : isString Try.prog 44 = false := by kernel_rfl
@[simp] theorem isSlice_44 : isSlice Try.prog 44 = true := by kernel_rfl
@[simp] theorem isIface_44 : isIface Try.prog 44 = some (false) := by kernel_rfl
@[simp] theorem concrete_44 : concrete Try.prog 44 = true := by kernel_rfl
@[simp] theorem bytesOf_44 : bytesOf Try.prog 44 = some (5) := by kernel_rfl
@[simp] theorem zeroCellsOf_44 : zeroCellsOf Try.prog 44 = some [.fl [] 0] := by kernel_rfl
@[simp] theorem zeroS_44 : zeroS Try.prog 44 = some (.fl [] 0) := by kernel_rfl
@[simp] theorem elemOf_44 : Sh.elemOf Try.prog 44 = some (5, 1) := by kernel_rfl
@[simp] theorem appOf_44 : appOf Try.prog 44 = some (5, 1, 1) := by kernel_rfl
@[simp] theorem makeOf_44 : makeOf Try.prog 44 = some ([.d (.v (.int .u8 0))], 1, 1) := by kernel_rfl
@[simp] theorem zerosOf_44 : zerosOf Try.prog 44 = some ([.v (.int .u8 0)], 1) := by kernel_rfl
@[simp] theorem loadG_44 {α : Type} (mk : List α → α) (cs : List α) (off : Nat) : loadG mk Try.prog 44 cs off = cs[off]? := by kernel_rfl
@[simp] theorem szOf_48 : szOf Try.prog 48 = some (7) := by kernel_rfl
@[simp] theorem known_48 : known Try.prog 48 = true := by kernel_rfl
@[simp] theorem isString_48 : isString Try.prog 48 = false := by kernel_rfl
@[simp] theorem isSlice_48 : isSlice Try.prog 48 = false := by kernel_rfl
@[simp] theorem isIface_48 : isIface Try.prog 48 = some (false) := by kernel_rfl
@[simp] theorem concrete_48 : concrete Try.prog 48 = true := by kernel_rfl
@[simp] theorem bytesOf_48 : bytesOf Try.prog 48 = none := by kernel_rfl
@[simp] theorem zeroCellsOf_48 : zeroCellsOf Try.prog 48 = some [.d (.v (.int .i64 0)), .d (.v (.string ⟨#[]⟩)), .d (.v (.int .i64 0)), .d (.v (.int .i64 0)), .d (.v (.string ⟨#[]⟩)), .fl [] 0, .fl [] 0] := by kernel_rfl
@[simp] theorem zeroS_48 : zeroS Try.prog 48 = some (.ag [.d (.v (.int .i64 0)), .d (.v (.string ⟨#[]⟩)), .d (.v (.int .i64 0)), .d (.v (.int .i64 0)), .d (.v (.string ⟨#[]⟩)), .fl [] 0, .fl [] 0]) := by kernel_rfl
@[simp] theorem fieldOf0_48 : fieldOf Try.prog 48 0 = some 0 := by kernel_rfl
@[simp] theorem fieldTy0_48 : fieldTy Try.prog 48 0 = some (3, 0) := by kernel_rfl
@[simp] theorem placeOf0_48 : placeOf Try.prog 48 0 = some (0, 1) := by kernel_rfl
@[simp] theorem fieldOf1_48 : fieldOf Try.prog 48 1 = some 1 := by kernel_rfl
@[simp] theorem fieldTy1_48 : fieldTy Try.prog 48 1 = some (9, 1) := by kernel_rfl
@[simp] theorem placeOf1_48 : placeOf Try.prog 48 1 = some (1, 1) := by kernel_rfl
@[simp] theorem fieldOf2_48 : fieldOf Try.prog 48 2 = some 2 := by kernel_rfl
@[simp] theorem fieldTy2_48 : fieldTy Try.prog 48 2 = some (27, 2) := by kernel_rfl
@[simp] theorem placeOf2_48 : placeOf Try.prog 48 2 = some (2, 5) := by kernel_rfl
@[simp] theorem sized_48 : sized Try.prog 48 = true := by kernel_rfl
@[simp] theorem loadG_48 {α : Type} (mk : List α → α) (cs : List α) (off : Nat) : loadG mk Try.prog 48 cs off = if off + 7 ≤ cs.length then some (mk ((cs.drop off).take 7)) else none := by kernel_rfl
@[simp] theorem szOf_61 : szOf Try.prog 61 = some (7) := by kernel_rfl
@[simp] theorem known_61 : known Try.prog 61 = true := by kernel_rfl
@[simp] theorem isString_61 : isString Try.prog 61 = false := by kernel_rfl
@[simp] theorem isSlice_61 : isSlice Try.prog 61 = false := by kernel_rfl
@[simp] theorem isIface_61 : isIface Try.prog 61 = some (false) := by kernel_rfl
@[simp] theorem concrete_61 : concrete Try.prog 61 = true := by kernel_rfl
@[simp] theorem bytesOf_61 : bytesOf Try.prog 61 = none := by kernel_rfl
@[simp] theorem zeroCellsOf_61 : zeroCellsOf Try.prog 61 = some [.d (.v (.int .i64 0)), .d (.v (.string ⟨#[]⟩)), .d (.v (.int .i64 0)), .d (.v (.int .i64 0)), .d (.v (.string ⟨#[]⟩)), .fl [] 0, .fl [] 0] := by kernel_rfl
@[simp] theorem zeroS_61 : zeroS Try.prog 61 = some (.ag [.d (.v (.int .i64 0)), .d (.v (.string ⟨#[]⟩)), .d (.v (.int .i64 0)), .d (.v (.int .i64 0)), .d (.v (.string ⟨#[]⟩)), .fl [] 0, .fl [] 0]) := by kernel_rfl
@[simp] theorem fieldOf0_61 : fieldOf Try.prog 61 0 = some 0 := by kernel_rfl
@[simp] theorem fieldTy0_61 : fieldTy Try.prog 61 0 = some (3, 0) := by kernel_rfl
@[simp] theorem placeOf0_61 : placeOf Try.prog 61 0 = some (0, 1) := by kernel_rfl
@[simp] theorem fieldOf1_61 : fieldOf Try.prog 61 1 = some 1 := by kernel_rfl
@[simp] theorem fieldTy1_61 : fieldTy Try.prog 61 1 = some (9, 1) := by kernel_rfl
@[simp] theorem placeOf1_61 : placeOf Try.prog 61 1 = some (1, 1) := by kernel_rfl
@[simp] theorem fieldOf2_61 : fieldOf Try.prog 61 2 = some 2 := by kernel_rfl
@[simp] theorem fieldTy2_61 : fieldTy Try.prog 61 2 = some (38, 2) := by kernel_rfl
@[simp] theorem placeOf2_61 : placeOf Try.prog 61 2 = some (2, 5) := by kernel_rfl
@[simp] theorem sized_61 : sized Try.prog 61 = true := by kernel_rfl
@[simp] theorem loadG_61 {α : Type} (mk : List α → α) (cs : List α) (off : Nat) : loadG mk Try.prog 61 cs off = if off + 7 ≤ cs.length then some (mk ((cs.drop off).take 7)) else none := by kernel_rfl
@[simp] theorem szOf_63 : szOf Try.prog 63 = some (1) := by kernel_rfl
@[simp] theorem known_63 : known Try.prog 63 = true := by kernel_rfl
@[simp] theorem isString_63 : isString Try.prog 63 = false := by kernel_rfl
@[simp] theorem isSlice_63 : isSlice Try.prog 63 = false := by kernel_rfl
@[simp] theorem isIface_63 : isIface Try.prog 63 = some (false) := by kernel_rfl
@[simp] theorem concrete_63 : concrete Try.prog 63 = true := by kernel_rfl
@[simp] theorem bytesOf_63 : bytesOf Try.prog 63 = none := by kernel_rfl
@[simp] theorem zeroCellsOf_63 : zeroCellsOf Try.prog 63 = some [.d (.v (.pointer none))] := by kernel_rfl
@[simp] theorem zeroS_63 : zeroS Try.prog 63 = some (.d (.v (.pointer none))) := by kernel_rfl
@[simp] theorem nilEqN_63 : evalNil Try.prog .eql 63 (.d (.v (.pointer none))) (.pointer none) = some (.d (.v (.bool true))) := by kernel_rfl
@[simp] theorem nilNeN_63 : evalNil Try.prog .neq 63 (.d (.v (.pointer none))) (.pointer none) = some (.d (.v (.bool false))) := by kernel_rfl
@[simp] theorem nilEqO_63 (b off : Nat) : evalNil Try.prog .eql 63 (.op b off) (.pointer none) = some (.d (.v (.bool false))) := by kernel_rfl
@[simp] theorem nilNeO_63 (b off : Nat) : evalNil Try.prog .neq 63 (.op b off) (.pointer none) = some (.d (.v (.bool true))) := by kernel_rfl
@[simp] theorem nilEqP_63 (cs : List D) (off : Nat) : evalNil Try.prog .eql 63 (.d (.pp cs off)) (.pointer none) = some (.d (.v (.bool false))) := by kernel_rfl
@[simp] theorem nilNeP_63 (cs : List D) (off : Nat) : evalNil Try.prog .neq 63 (.d (.pp cs off)) (.pointer none) = some (.d (.v (.bool true))) := by kernel_rfl
@[simp] theorem loadG_63 {α : Type} (mk : List α → α) (cs : List α) (off : Nat) : loadG mk Try.prog 63 cs off = cs[off]? := by kernel_rfl
@[simp] theorem szOf_82 : szOf Try.prog 82 = some (1) := by kernel_rfl
@[simp] theorem known_82 : known Try.prog 82 = true := by kernel_rfl
@[simp] theorem isString_82 : isString Try.prog 82 = false := by kernel_rfl
@[simp] theorem isSlice_82 : isSlice Try.prog 82 = false := by kernel_rfl
@[simp] theorem isIface_82 : isIface Try.prog 82 = some (false) := by kernel_rfl
@[simp] theorem concrete_82 : concrete Try.prog 82 = true := by kernel_rfl
@[simp] theorem bytesOf_82 : bytesOf Try.prog 82 = none := by kernel_rfl
@[simp] theorem zeroCellsOf_82 : zeroCellsOf Try.prog 82 = some [.d (.v (.pointer none))] := by kernel_rfl
@[simp] theorem zeroS_82 : zeroS Try.prog 82 = some (.d (.v (.pointer none))) := by kernel_rfl
@[simp] theorem nilEqN_82 : evalNil Try.prog .eql 82 (.d (.v (.pointer none))) (.pointer none) = some (.d (.v (.bool true))) := by kernel_rfl
@[simp] theorem nilNeN_82 : evalNil Try.prog .neq 82 (.d (.v (.pointer none))) (.pointer none) = some (.d (.v (.bool false))) := by kernel_rfl
@[simp] theorem nilEqO_82 (b off : Nat) : evalNil Try.prog .eql 82 (.op b off) (.pointer none) = some (.d (.v (.bool false))) := by kernel_rfl
@[simp] theorem nilNeO_82 (b off : Nat) : evalNil Try.prog .neq 82 (.op b off) (.pointer none) = some (.d (.v (.bool true))) := by kernel_rfl
@[simp] theorem nilEqP_82 (cs : List D) (off : Nat) : evalNil Try.prog .eql 82 (.d (.pp cs off)) (.pointer none) = some (.d (.v (.bool false))) := by kernel_rfl
@[simp] theorem nilNeP_82 (cs : List D) (off : Nat) : evalNil Try.prog .neq 82 (.d (.pp cs off)) (.pointer none) = some (.d (.v (.bool true))) := by kernel_rfl
@[simp] theorem loadG_82 {α : Type} (mk : List α → α) (cs : List α) (off : Nat) : loadG mk Try.prog 82 cs off = cs[off]? := by kernel_rfl
@[simp] theorem szOf_84 : szOf Try.prog 84 = some (1) := by kernel_rfl
@[simp] theorem known_84 : known Try.prog 84 = true := by kernel_rfl
@[simp] theorem isString_84 : isString Try.prog 84 = false := by kernel_rfl
@[simp] theorem isSlice_84 : isSlice Try.prog 84 = false := by kernel_rfl
@[simp] theorem isIface_84 : isIface Try.prog 84 = some (false) := by kernel_rfl
@[simp] theorem concrete_84 : concrete Try.prog 84 = true := by kernel_rfl
@[simp] theorem bytesOf_84 : bytesOf Try.prog 84 = none := by kernel_rfl
@[simp] theorem zeroCellsOf_84 : zeroCellsOf Try.prog 84 = some [.d (.v (.pointer none))] := by kernel_rfl
@[simp] theorem zeroS_84 : zeroS Try.prog 84 = some (.d (.v (.pointer none))) := by kernel_rfl
@[simp] theorem nilEqN_84 : evalNil Try.prog .eql 84 (.d (.v (.pointer none))) (.pointer none) = some (.d (.v (.bool true))) := by kernel_rfl
@[simp] theorem nilNeN_84 : evalNil Try.prog .neq 84 (.d (.v (.pointer none))) (.pointer none) = some (.d (.v (.bool false))) := by kernel_rfl
@[simp] theorem nilEqO_84 (b off : Nat) : evalNil Try.prog .eql 84 (.op b off) (.pointer none) = some (.d (.v (.bool false))) := by kernel_rfl
@[simp] theorem nilNeO_84 (b off : Nat) : evalNil Try.prog .neq 84 (.op b off) (.pointer none) = some (.d (.v (.bool true))) := by kernel_rfl
@[simp] theorem nilEqP_84 (cs : List D) (off : Nat) : evalNil Try.prog .eql 84 (.d (.pp cs off)) (.pointer none) = some (.d (.v (.bool false))) := by kernel_rfl
@[simp] theorem nilNeP_84 (cs : List D) (off : Nat) : evalNil Try.prog .neq 84 (.d (.pp cs off)) (.pointer none) = some (.d (.v (.bool true))) := by kernel_rfl
@[simp] theorem loadG_84 {α : Type} (mk : List α → α) (cs : List α) (off : Nat) : loadG mk Try.prog 84 cs off = cs[off]? := by kernel_rfl
@[simp] theorem szOf_89 : szOf Try.prog 89 = some (1) := by kernel_rfl
@[simp] theorem known_89 : known Try.prog 89 = true := by kernel_rfl
@[simp] theorem isString_89 : isString Try.prog 89 = false := by kernel_rfl
@[simp] theorem isSlice_89 : isSlice Try.prog 89 = false := by kernel_rfl
@[simp] theorem isIface_89 : isIface Try.prog 89 = some (false) := by kernel_rfl
@[simp] theorem concrete_89 : concrete Try.prog 89 = true := by kernel_rfl
@[simp] theorem bytesOf_89 : bytesOf Try.prog 89 = none := by kernel_rfl
@[simp] theorem zeroCellsOf_89 : zeroCellsOf Try.prog 89 = some [.d (.v (.map none))] := by kernel_rfl
@[simp] theorem zeroS_89 : zeroS Try.prog 89 = some (.d (.v (.map none))) := by kernel_rfl
@[simp] theorem isMap_89 : isMap Try.prog 89 = true := by kernel_rfl
@[simp] theorem mapKey_89 : Sh.mapKey Try.prog 89 = some (97, 98) := by kernel_rfl
@[simp] theorem loadG_89 {α : Type} (mk : List α → α) (cs : List α) (off : Nat) : loadG mk Try.prog 89 cs off = cs[off]? := by kernel_rfl
@[simp] theorem szOf_91 : szOf Try.prog 91 = some (10) := by kernel_rfl
@[simp] theorem known_91 : known Try.prog 91 = true := by kernel_rfl
@[simp] theorem isString_91 : isString Try.prog 91 = false := by kernel_rfl
@[simp] theorem isSlice_91 : isSlice Try.prog 91 = false := by kernel_rfl
@[simp] theorem isIface_91 : isIface Try.prog 91 = some (false) := by kernel_rfl
@[simp] theorem concrete_91 : concrete Try.prog 91 = true := by kernel_rfl
@[simp] theorem bytesOf_91 : bytesOf Try.prog 91 = none := by kernel_rfl
@[simp] theorem zeroCellsOf_91 : zeroCellsOf Try.prog 91 = some [.d (.v (.int .i64 0)), .d (.v (.int .i64 0)), .d (.v (.string ⟨#[]⟩)), .fl [] 0, .fl [] 0, .d (.v (.int .i64 0)), .d (.v (.int .i64 0)), .d (.v (.string ⟨#[]⟩)), .fl [] 0, .fl [] 0] := by kernel_rfl
@[simp] theorem zeroS_91 : zeroS Try.prog 91 = some (.ag [.d (.v (.int .i64 0)), .d (.v (.int .i64 0)), .d (.v (.string ⟨#[]⟩)), .fl [] 0, .fl [] 0, .d (.v (.int .i64 0)), .d (.v (.int .i64 0)), .d (.v (.string ⟨#[]⟩)), .fl [] 0, .fl [] 0]) := by kernel_rfl
@[simp] theorem fieldOf0_91 : fieldOf Try.prog 91 0 = some 0 := by kernel_rfl
@[simp] theorem fieldTy0_91 : fieldTy Try.prog 91 0 = some (27, 0) := by kernel_rfl
@[simp] theorem placeOf0_91 : placeOf Try.prog 91 0 = some (0, 5) := by kernel_rfl
@[simp] theorem fieldOf1_91 : fieldOf Try.prog 91 1 = some 5 := by kernel_rfl
@[simp] theorem fieldTy1_91 : fieldTy Try.prog 91 1 = some (27, 5) := by kernel_rfl
@[simp] theorem placeOf1_91 : placeOf Try.prog 91 1 = some (5, 5) := by kernel_rfl
@[simp] theorem sized_91 : sized Try.prog 91 = true := by kernel_rfl
@[simp] theorem loadG_91 {α : Type} (mk : List α → α) (cs : List α) (off : Nat) : loadG mk Try.prog 91 cs off = if off + 10 ≤ cs.length then some (mk ((cs.drop off).take 10)) else none := by kernel_rfl
@[simp] theorem szOf_92 : szOf Try.prog 92 = some (1) := by kernel_rfl
@[simp] theorem known_92 : known Try.prog 92 = true := by kernel_rfl
@[simp] theorem isString_92 : isString Try.prog 92 = false := by kernel_rfl
@[simp] theorem isSlice_92 : isSlice Try.prog 92 = true := by kernel_rfl
@[simp] theorem isIface_92 : isIface Try.prog 92 = some (false) := by kernel_rfl
@[simp] theorem concrete_92 : concrete Try.prog 92 = true := by kernel_rfl
@[simp] theorem bytesOf_92 : bytesOf Try.prog 92 = none := by kernel_rfl
@[simp] theorem zeroCellsOf_92 : zeroCellsOf Try.prog 92 = some [.fl [] 0] := by kernel_rfl
@[simp] theorem zeroS_92 : zeroS Try.prog 92 = some (.fl [] 0) := by kernel_rfl
@[simp] theorem elemOf_92 : Sh.elemOf Try.prog 92 = some (91, 10) := by kernel_rfl
@[simp] theorem appOf_92 : appOf Try.prog 92 = some (91, 10, 160) := by kernel_rfl
@[simp] theorem makeOf_92 : makeOf Try.prog 92 = some ([.d (.v (.int .i64 0)), .d (.v (.int .i64 0)), .d (.v (.string ⟨#[]⟩)), .fl [] 0, .fl [] 0, .d (.v (.int .i64 0)), .d (.v (.int .i64 0)), .d (.v (.string ⟨#[]⟩)), .fl [] 0, .fl [] 0], 10, 160) := by kernel_rfl
@[simp] theorem zerosOf_92 : zerosOf Try.prog 92 = some ([.v (.int .i64 0), .v (.int .i64 0), .v (.string ⟨#[]⟩), .ps [] 0, .ps [] 0, .v (.int .i64 0), .v (.int .i64 0), .v (.string ⟨#[]⟩), .ps [] 0, .ps [] 0], 10) := by kernel_rfl
@[simp] theorem loadG_92 {α : Type} (mk : List α → α) (cs : List α) (off : Nat) : loadG mk Try.prog 92 cs off = cs[off]? := by kernel_rfl
@[simp] theorem szOf_94 : szOf Try.prog 94 = some (2) := by kernel_rfl
@[simp] theorem known_94 : known Try.prog 94 = true := by kernel_rfl
@[simp] theorem isString_94 : isString Try.prog 94 = false := by kernel_rfl
@[simp] theorem isSlice_94 : isSlice Try.prog 94 = false := by kernel_rfl
@[simp] theorem isIface_94 : isIface Try.prog 94 = some (false) := by kernel_rfl
@[simp] theorem concrete_94 : concrete Try.prog 94 = true := by kernel_rfl
@[simp] theorem bytesOf_94 : bytesOf Try.prog 94 = none := by kernel_rfl
@[simp] theorem zeroCellsOf_94 : zeroCellsOf Try.prog 94 = some [.d (.v (.pointer none)), .d (.v (.int .i64 0))] := by kernel_rfl
@[simp] theorem zeroS_94 : zeroS Try.prog 94 = some (.ag [.d (.v (.pointer none)), .d (.v (.int .i64 0))]) := by kernel_rfl
@[simp] theorem fieldOf0_94 : fieldOf Try.prog 94 0 = some 0 := by kernel_rfl
@[simp] theorem fieldTy0_94 : fieldTy Try.prog 94 0 = some (82, 0) := by kernel_rfl
@[simp] theorem placeOf0_94 : placeOf Try.prog 94 0 = some (0, 1) := by kernel_rfl
@[simp] theorem fieldOf1_94 : fieldOf Try.prog 94 1 = some 1 := by kernel_rfl
@[simp] theorem fieldTy1_94 : fieldTy Try.prog 94 1 = some (3, 1) := by kernel_rfl
@[simp] theorem placeOf1_94 : placeOf Try.prog 94 1 = some (1, 1) := by kernel_rfl
@[simp] theorem sized_94 : sized Try.prog 94 = true := by kernel_rfl
@[simp] theorem spanT_94 : spanT Try.prog 94 = true := by kernel_rfl
@[simp] theorem loadG_94 {α : Type} (mk : List α → α) (cs : List α) (off : Nat) : loadG mk Try.prog 94 cs off = if off + 2 ≤ cs.length then some (mk ((cs.drop off).take 2)) else none := by kernel_rfl
@[simp] theorem szOf_97 : szOf Try.prog 97 = some (4) := by kernel_rfl
@[simp] theorem known_97 : known Try.prog 97 = true := by kernel_rfl
@[simp] theorem isString_97 : isString Try.prog 97 = false := by kernel_rfl
@[simp] theorem isSlice_97 : isSlice Try.prog 97 = false := by kernel_rfl
@[simp] theorem isIface_97 : isIface Try.prog 97 = some (false) := by kernel_rfl
@[simp] theorem concrete_97 : concrete Try.prog 97 = true := by kernel_rfl
@[simp] theorem bytesOf_97 : bytesOf Try.prog 97 = none := by kernel_rfl
@[simp] theorem zeroCellsOf_97 : zeroCellsOf Try.prog 97 = some [.d (.v (.pointer none)), .d (.v (.int .i64 0)), .d (.v (.pointer none)), .d (.v (.int .i64 0))] := by kernel_rfl
@[simp] theorem zeroS_97 : zeroS Try.prog 97 = some (.ag [.d (.v (.pointer none)), .d (.v (.int .i64 0)), .d (.v (.pointer none)), .d (.v (.int .i64 0))]) := by kernel_rfl
@[simp] theorem fieldOf0_97 : fieldOf Try.prog 97 0 = some 0 := by kernel_rfl
@[simp] theorem fieldTy0_97 : fieldTy Try.prog 97 0 = some (94, 0) := by kernel_rfl
@[simp] theorem placeOf0_97 : placeOf Try.prog 97 0 = some (0, 2) := by kernel_rfl
@[simp] theorem fieldOf1_97 : fieldOf Try.prog 97 1 = some 2 := by kernel_rfl
@[simp] theorem fieldTy1_97 : fieldTy Try.prog 97 1 = some (94, 2) := by kernel_rfl
@[simp] theorem placeOf1_97 : placeOf Try.prog 97 1 = some (2, 2) := by kernel_rfl
@[simp] theorem sized_97 : sized Try.prog 97 = true := by kernel_rfl
@[simp] theorem metT_97 : metT Try.prog 97 = true := by kernel_rfl
@[simp] theorem loadG_97 {α : Type} (mk : List α → α) (cs : List α) (off : Nat) : loadG mk Try.prog 97 cs off = if off + 4 ≤ cs.length then some (mk ((cs.drop off).take 4)) else none := by kernel_rfl
@[simp] theorem szOf_98 : szOf Try.prog 98 = some (0) := by kernel_rfl
@[simp] theorem known_98 : known Try.prog 98 = true := by kernel_rfl
@[simp] theorem isString_98 : isString Try.prog 98 = false := by kernel_rfl
@[simp] theorem isSlice_98 : isSlice Try.prog 98 = false := by kernel_rfl
@[simp] theorem isIface_98 : isIface Try.prog 98 = some (false) := by kernel_rfl
@[simp] theorem concrete_98 : concrete Try.prog 98 = true := by kernel_rfl
@[simp] theorem bytesOf_98 : bytesOf Try.prog 98 = none := by kernel_rfl
@[simp] theorem zeroCellsOf_98 : zeroCellsOf Try.prog 98 = some [] := by kernel_rfl
@[simp] theorem zeroS_98 : zeroS Try.prog 98 = some (.ag []) := by kernel_rfl
@[simp] theorem sized_98 : sized Try.prog 98 = true := by kernel_rfl
@[simp] theorem loadG_98 {α : Type} (mk : List α → α) (cs : List α) (off : Nat) : loadG mk Try.prog 98 cs off = if off + 0 ≤ cs.length then some (mk ((cs.drop off).take 0)) else none := by kernel_rfl
@[simp] theorem szOf_104 : szOf Try.prog 104 = some (1) := by kernel_rfl
@[simp] theorem known_104 : known Try.prog 104 = true := by kernel_rfl
@[simp] theorem isString_104 : isString Try.prog 104 = false := by kernel_rfl
@[simp] theorem isSlice_104 : isSlice Try.prog 104 = true := by kernel_rfl
@[simp] theorem isIface_104 : isIface Try.prog 104 = some (false) := by kernel_rfl
@[simp] theorem concrete_104 : concrete Try.prog 104 = true := by kernel_rfl
@[simp] theorem bytesOf_104 : bytesOf Try.prog 104 = none := by kernel_rfl
@[simp] theorem zeroCellsOf_104 : zeroCellsOf Try.prog 104 = some [.fl [] 0] := by kernel_rfl
@[simp] theorem zeroS_104 : zeroS Try.prog 104 = some (.fl [] 0) := by kernel_rfl
@[simp] theorem elemOf_104 : Sh.elemOf Try.prog 104 = some (136, 4) := by kernel_rfl
@[simp] theorem appOf_104 : appOf Try.prog 104 = some (136, 4, 72) := by kernel_rfl
@[simp] theorem makeOf_104 : makeOf Try.prog 104 = some ([.d (.v (.bool false)), .d (.v (.string ⟨#[]⟩)), .fl [] 0, .fl [] 0], 4, 72) := by kernel_rfl
@[simp] theorem zerosOf_104 : zerosOf Try.prog 104 = some ([.v (.bool false), .v (.string ⟨#[]⟩), .ps [] 0, .ps [] 0], 4) := by kernel_rfl
@[simp] theorem loadG_104 {α : Type} (mk : List α → α) (cs : List α) (off : Nat) : loadG mk Try.prog 104 cs off = cs[off]? := by kernel_rfl
@[simp] theorem szOf_105 : szOf Try.prog 105 = some (1) := by kernel_rfl
@[simp] theorem known_105 : known Try.prog 105 = true := by kernel_rfl
@[simp] theorem isString_105 : isString Try.prog 105 = false := by kernel_rfl
@[simp] theorem isSlice_105 : isSlice Try.prog 105 = true := by kernel_rfl
@[simp] theorem isIface_105 : isIface Try.prog 105 = some (false) := by kernel_rfl
@[simp] theorem concrete_105 : concrete Try.prog 105 = true := by kernel_rfl
@[simp] theorem bytesOf_105 : bytesOf Try.prog 105 = none := by kernel_rfl
@[simp] theorem zeroCellsOf_105 : zeroCellsOf Try.prog 105 = some [.fl [] 0] := by kernel_rfl
@[simp] theorem zeroS_105 : zeroS Try.prog 105 = some (.fl [] 0) := by kernel_rfl
@[simp] theorem elemOf_105 : Sh.elemOf Try.prog 105 = some (138, 3) := by kernel_rfl
@[simp] theorem appOf_105 : appOf Try.prog 105 = some (138, 3, 56) := by kernel_rfl
@[simp] theorem makeOf_105 : makeOf Try.prog 105 = some ([.d (.v (.string ⟨#[]⟩)), .d (.v (.string ⟨#[]⟩)), .fl [] 0], 3, 56) := by kernel_rfl
@[simp] theorem zerosOf_105 : zerosOf Try.prog 105 = some ([.v (.string ⟨#[]⟩), .v (.string ⟨#[]⟩), .ps [] 0], 3) := by kernel_rfl
@[simp] theorem loadG_105 {α : Type} (mk : List α → α) (cs : List α) (off : Nat) : loadG mk Try.prog 105 cs off = cs[off]? := by kernel_rfl
@[simp] theorem szOf_107 : szOf Try.prog 107 = some (2) := by kernel_rfl
@[simp] theorem known_107 : known Try.prog 107 = true := by kernel_rfl
@[simp] theorem isString_107 : isString Try.prog 107 = false := by kernel_rfl
@[simp] theorem isSlice_107 : isSlice Try.prog 107 = false := by kernel_rfl
@[simp] theorem isIface_107 : isIface Try.prog 107 = some (false) := by kernel_rfl
@[simp] theorem concrete_107 : concrete Try.prog 107 = true := by kernel_rfl
@[simp] theorem bytesOf_107 : bytesOf Try.prog 107 = none := by kernel_rfl
@[simp] theorem zeroCellsOf_107 : zeroCellsOf Try.prog 107 = some [.fl [] 0, .fl [] 0] := by kernel_rfl
@[simp] theorem zeroS_107 : zeroS Try.prog 107 = some (.ag [.fl [] 0, .fl [] 0]) := by kernel_rfl
@[simp] theorem fieldOf0_107 : fieldOf Try.prog 107 0 = some 0 := by kernel_rfl
@[simp] theorem fieldTy0_107 : fieldTy Try.prog 107 0 = some (104, 0) := by kernel_rfl
@[simp] theorem placeOf0_107 : placeOf Try.prog 107 0 = some (0, 1) := by kernel_rfl
@[simp] theorem fieldOf1_107 : fieldOf Try.prog 107 1 = some 1 := by kernel_rfl
@[simp] theorem fieldTy1_107 : fieldTy Try.prog 107 1 = some (105, 1) := by kernel_rfl
@[simp] theorem placeOf1_107 : placeOf Try.prog 107 1 = some (1, 1) := by kernel_rfl
@[simp] theorem sized_107 : sized Try.prog 107 = true := by kernel_rfl
@[simp] theorem loadG_107 {α : Type} (mk : List α → α) (cs : List α) (off : Nat) : loadG mk Try.prog 107 cs off = if off + 2 ≤ cs.length then some (mk ((cs.drop off).take 2)) else none := by kernel_rfl
@[simp] theorem szOf_113 : szOf Try.prog 113 = some (1) := by kernel_rfl
@[simp] theorem known_113 : known Try.prog 113 = true := by kernel_rfl
@[simp] theorem isString_113 : isString Try.prog 113 = false := by kernel_rfl
@[simp] theorem isSlice_113 : isSlice Try.prog 113 = true := by kernel_rfl
@[simp] theorem isIface_113 : isIface Try.prog 113 = some (false) := by kernel_rfl
@[simp] theorem concrete_113 : concrete Try.prog 113 = true := by kernel_rfl
@[simp] theorem bytesOf_113 : bytesOf Try.prog 113 = none := by kernel_rfl
@[simp] theorem zeroCellsOf_113 : zeroCellsOf Try.prog 113 = some [.fl [] 0] := by kernel_rfl
@[simp] theorem zeroS_113 : zeroS Try.prog 113 = some (.fl [] 0) := by kernel_rfl
@[simp] theorem elemOf_113 : Sh.elemOf Try.prog 113 = some (3, 1) := by kernel_rfl
@[simp] theorem appOf_113 : appOf Try.prog 113 = some (3, 1, 8) := by kernel_rfl
@[simp] theorem makeOf_113 : makeOf Try.prog 113 = some ([.d (.v (.int .i64 0))], 1, 8) := by kernel_rfl
@[simp] theorem zerosOf_113 : zerosOf Try.prog 113 = some ([.v (.int .i64 0)], 1) := by kernel_rfl
@[simp] theorem loadG_113 {α : Type} (mk : List α → α) (cs : List α) (off : Nat) : loadG mk Try.prog 113 cs off = cs[off]? := by kernel_rfl
@[simp] theorem szOf_115 : szOf Try.prog 115 = some (2) := by kernel_rfl
@[simp] theorem known_115 : known Try.prog 115 = true := by kernel_rfl
@[simp] theorem isString_115 : isString Try.prog 115 = false := by kernel_rfl
@[simp] theorem isSlice_115 : isSlice Try.prog 115 = false := by kernel_rfl
@[simp] theorem isIface_115 : isIface Try.prog 115 = some (false) := by kernel_rfl
@[simp] theorem concrete_115 : concrete Try.prog 115 = true := by kernel_rfl
@[simp] theorem bytesOf_115 : bytesOf Try.prog 115 = none := by kernel_rfl
@[simp] theorem zeroCellsOf_115 : zeroCellsOf Try.prog 115 = some [.fl [] 0, .fl [] 0] := by kernel_rfl
@[simp] theorem zeroS_115 : zeroS Try.prog 115 = some (.ag [.fl [] 0, .fl [] 0]) := by kernel_rfl
@[simp] theorem fieldOf0_115 : fieldOf Try.prog 115 0 = some 0 := by kernel_rfl
@[simp] theorem fieldTy0_115 : fieldTy Try.prog 115 0 = some (113, 0) := by kernel_rfl
@[simp] theorem placeOf0_115 : placeOf Try.prog 115 0 = some (0, 1) := by kernel_rfl
@[simp] theorem fieldOf1_115 : fieldOf Try.prog 115 1 = some 1 := by kernel_rfl
@[simp] theorem fieldTy1_115 : fieldTy Try.prog 115 1 = some (29, 1) := by kernel_rfl
@[simp] theorem placeOf1_115 : placeOf Try.prog 115 1 = some (1, 1) := by kernel_rfl
@[simp] theorem sized_115 : sized Try.prog 115 = true := by kernel_rfl
@[simp] theorem loadG_115 {α : Type} (mk : List α → α) (cs : List α) (off : Nat) : loadG mk Try.prog 115 cs off = if off + 2 ≤ cs.length then some (mk ((cs.drop off).take 2)) else none := by kernel_rfl
@[simp] theorem szOf_121 : szOf Try.prog 121 = some (1) := by kernel_rfl
@[simp] theorem known_121 : known Try.prog 121 = true := by kernel_rfl
@[simp] theorem isString_121 : isString Try.prog 121 = false := by kernel_rfl
@[simp] theorem isSlice_121 : isSlice Try.prog 121 = false := by kernel_rfl
@[simp] theorem isIface_121 : isIface Try.prog 121 = some (true) := by kernel_rfl
@[simp] theorem concrete_121 : concrete Try.prog 121 = false := by kernel_rfl
@[simp] theorem bytesOf_121 : bytesOf Try.prog 121 = none := by kernel_rfl
@[simp] theorem zeroCellsOf_121 : zeroCellsOf Try.prog 121 = some [.d (.v (.nilIface))] := by kernel_rfl
@[simp] theorem zeroS_121 : zeroS Try.prog 121 = some (.d (.v (.nilIface))) := by kernel_rfl
@[simp] theorem nilEqN_121 : evalNil Try.prog .eql 121 (.d (.v .nilIface)) .nilIface = some (.d (.v (.bool true))) := by kernel_rfl
@[simp] theorem nilNeN_121 : evalNil Try.prog .neq 121 (.d (.v .nilIface)) .nilIface = some (.d (.v (.bool false))) := by kernel_rfl
@[simp] theorem nilEqI_121 (t : TypeId) (x : D) : evalNil Try.prog .eql 121 (.d (.ifc t x)) .nilIface = some (.d (.v (.bool false))) := by kernel_rfl
@[simp] theorem nilNeI_121 (t : TypeId) (x : D) : evalNil Try.prog .neq 121 (.d (.ifc t x)) .nilIface = some (.d (.v (.bool true))) := by kernel_rfl
@[simp] theorem loadG_121 {α : Type} (mk : List α → α) (cs : List α) (off : Nat) : loadG mk Try.prog 121 cs off = cs[off]? := by kernel_rfl
@[simp] theorem szOf_123 : szOf Try.prog 123 = some (1) := by kernel_rfl
@[simp] theorem known_123 : known Try.prog 123 = true := by kernel_rfl
@[simp] theorem isString_123 : isString Try.prog 123 = true := by kernel_rfl
@[simp] theorem isSlice_123 : isSlice Try.prog 123 = false := by kernel_rfl
@[simp] theorem isIface_123 : isIface Try.prog 123 = some (false) := by kernel_rfl
@[simp] theorem concrete_123 : concrete Try.prog 123 = true := by kernel_rfl
@[simp] theorem bytesOf_123 : bytesOf Try.prog 123 = none := by kernel_rfl
@[simp] theorem zeroCellsOf_123 : zeroCellsOf Try.prog 123 = some [.d (.v (.string ⟨#[]⟩))] := by kernel_rfl
@[simp] theorem zeroS_123 : zeroS Try.prog 123 = some (.d (.v (.string ⟨#[]⟩))) := by kernel_rfl
@[simp] theorem loadG_123 {α : Type} (mk : List α → α) (cs : List α) (off : Nat) : loadG mk Try.prog 123 cs off = cs[off]? := by kernel_rfl
@[simp] theorem szOf_124 : szOf Try.prog 124 = some (1) := by kernel_rfl
@[simp] theorem known_124 : known Try.prog 124 = true := by kernel_rfl
@[simp] theorem isString_124 : isString Try.prog 124 = true := by kernel_rfl
@[simp] theorem isSlice_124 : isSlice Try.prog 124 = false := by kernel_rfl
@[simp] theorem isIface_124 : isIface Try.prog 124 = some (false) := by kernel_rfl
@[simp] theorem concrete_124 : concrete Try.prog 124 = true := by kernel_rfl
@[simp] theorem bytesOf_124 : bytesOf Try.prog 124 = none := by kernel_rfl
@[simp] theorem zeroCellsOf_124 : zeroCellsOf Try.prog 124 = some [.d (.v (.string ⟨#[]⟩))] := by kernel_rfl
@[simp] theorem zeroS_124 : zeroS Try.prog 124 = some (.d (.v (.string ⟨#[]⟩))) := by kernel_rfl
@[simp] theorem loadG_124 {α : Type} (mk : List α → α) (cs : List α) (off : Nat) : loadG mk Try.prog 124 cs off = cs[off]? := by kernel_rfl
@[simp] theorem szOf_127 : szOf Try.prog 127 = some (2) := by kernel_rfl
@[simp] theorem known_127 : known Try.prog 127 = true := by kernel_rfl
@[simp] theorem isString_127 : isString Try.prog 127 = false := by kernel_rfl
@[simp] theorem isSlice_127 : isSlice Try.prog 127 = false := by kernel_rfl
@[simp] theorem isIface_127 : isIface Try.prog 127 = some (false) := by kernel_rfl
@[simp] theorem concrete_127 : concrete Try.prog 127 = true := by kernel_rfl
@[simp] theorem bytesOf_127 : bytesOf Try.prog 127 = none := by kernel_rfl
@[simp] theorem zeroCellsOf_127 : zeroCellsOf Try.prog 127 = some [.fl [] 0, .d (.v (.int .i64 0))] := by kernel_rfl
@[simp] theorem zeroS_127 : zeroS Try.prog 127 = some (.ag [.fl [] 0, .d (.v (.int .i64 0))]) := by kernel_rfl
@[simp] theorem fieldOf0_127 : fieldOf Try.prog 127 0 = some 0 := by kernel_rfl
@[simp] theorem fieldTy0_127 : fieldTy Try.prog 127 0 = some (44, 0) := by kernel_rfl
@[simp] theorem placeOf0_127 : placeOf Try.prog 127 0 = some (0, 1) := by kernel_rfl
@[simp] theorem fieldOf1_127 : fieldOf Try.prog 127 1 = some 1 := by kernel_rfl
@[simp] theorem fieldTy1_127 : fieldTy Try.prog 127 1 = some (3, 1) := by kernel_rfl
@[simp] theorem placeOf1_127 : placeOf Try.prog 127 1 = some (1, 1) := by kernel_rfl
@[simp] theorem sized_127 : sized Try.prog 127 = true := by kernel_rfl
@[simp] theorem loadG_127 {α : Type} (mk : List α → α) (cs : List α) (off : Nat) : loadG mk Try.prog 127 cs off = if off + 2 ≤ cs.length then some (mk ((cs.drop off).take 2)) else none := by kernel_rfl
@[simp] theorem szOf_133 : szOf Try.prog 133 = some (1) := by kernel_rfl
@[simp] theorem known_133 : known Try.prog 133 = true := by kernel_rfl
@[simp] theorem isString_133 : isString Try.prog 133 = false := by kernel_rfl
@[simp] theorem isSlice_133 : isSlice Try.prog 133 = true := by kernel_rfl
@[simp] theorem isIface_133 : isIface Try.prog 133 = some (false) := by kernel_rfl
@[simp] theorem concrete_133 : concrete Try.prog 133 = true := by kernel_rfl
@[simp] theorem bytesOf_133 : bytesOf Try.prog 133 = none := by kernel_rfl
@[simp] theorem zeroCellsOf_133 : zeroCellsOf Try.prog 133 = some [.fl [] 0] := by kernel_rfl
@[simp] theorem zeroS_133 : zeroS Try.prog 133 = some (.fl [] 0) := by kernel_rfl
@[simp] theorem elemOf_133 : Sh.elemOf Try.prog 133 = some (151, 10) := by kernel_rfl
@[simp] theorem appOf_133 : appOf Try.prog 133 = some (151, 10, 152) := by kernel_rfl
@[simp] theorem makeOf_133 : makeOf Try.prog 133 = some ([.d (.v (.string ⟨#[]⟩)), .d (.v (.string ⟨#[]⟩)), .fl [] 0, .d (.v (.bool false)), .d (.v (.bool false)), .d (.v (.int .i64 0)), .d (.v (.int .i64 0)), .d (.v (.string ⟨#[]⟩)), .fl [] 0, .fl [] 0], 10, 152) := by kernel_rfl
@[simp] theorem zerosOf_133 : zerosOf Try.prog 133 = some ([.v (.string ⟨#[]⟩), .v (.string ⟨#[]⟩), .ps [] 0, .v (.bool false), .v (.bool false), .v (.int .i64 0), .v (.int .i64 0), .v (.string ⟨#[]⟩), .ps [] 0, .ps [] 0], 10) := by kernel_rfl
@[simp] theorem loadG_133 {α : Type} (mk : List α → α) (cs : List α) (off : Nat) : loadG mk Try.prog 133 cs off = cs[off]? := by kernel_rfl
@[simp] theorem szOf_134 : szOf Try.prog 134 = some (1) := by kernel_rfl
@[simp] theorem known_134 : known Try.prog 134 = true := by kernel_rfl
@[simp] theorem isString_134 : isString Try.prog 134 = false := by kernel_rfl
@[simp] theorem isSlice_134 : isSlice Try.prog 134 = true := by kernel_rfl
@[simp] theorem isIface_134 : isIface Try.prog 134 = some (false) := by kernel_rfl
@[simp] theorem concrete_134 : concrete Try.prog 134 = true := by kernel_rfl
@[simp] theorem bytesOf_134 : bytesOf Try.prog 134 = none := by kernel_rfl
@[simp] theorem zeroCellsOf_134 : zeroCellsOf Try.prog 134 = some [.fl [] 0] := by kernel_rfl
@[simp] theorem zeroS_134 : zeroS Try.prog 134 = some (.fl [] 0) := by kernel_rfl
@[simp] theorem elemOf_134 : Sh.elemOf Try.prog 134 = some (178, 6) := by kernel_rfl
@[simp] theorem appOf_134 : appOf Try.prog 134 = some (178, 6, 112) := by kernel_rfl
@[simp] theorem makeOf_134 : makeOf Try.prog 134 = some ([.d (.v (.int .i64 0)), .d (.v (.string ⟨#[]⟩)), .d (.v (.string ⟨#[]⟩)), .fl [] 0, .fl [] 0, .fl [] 0], 6, 112) := by kernel_rfl
@[simp] theorem zerosOf_134 : zerosOf Try.prog 134 = some ([.v (.int .i64 0), .v (.string ⟨#[]⟩), .v (.string ⟨#[]⟩), .ps [] 0, .ps [] 0, .ps [] 0], 6) := by kernel_rfl
@[simp] theorem loadG_134 {α : Type} (mk : List α → α) (cs : List α) (off : Nat) : loadG mk Try.prog 134 cs off = cs[off]? := by kernel_rfl
@[simp] theorem szOf_136 : szOf Try.prog 136 = some (4) := by kernel_rfl
@[simp] theorem known_136 : known Try.prog 136 = true := by kernel_rfl
@[simp] theorem isString_136 : isString Try.prog 136 = false := by kernel_rfl
@[simp] theorem isSlice_136 : isSlice Try.prog 136 = false := by kernel_rfl
@[simp] theorem isIface_136 : isIface Try.prog 136 = some (false) := by kernel_rfl
@[simp] theorem concrete_136 : concrete Try.prog 136 = true := by kernel_rfl
@[simp] theorem bytesOf_136 : bytesOf Try.prog 136 = none := by kernel_rfl
@[simp] theorem zeroCellsOf_136 : zeroCellsOf Try.prog 136 = some [.d (.v (.bool false)), .d (.v (.string ⟨#[]⟩)), .fl [] 0, .fl [] 0] := by kernel_rfl
@[simp] theorem zeroS_136 : zeroS Try.prog 136 = some (.ag [.d (.v (.bool false)), .d (.v (.string ⟨#[]⟩)), .fl [] 0, .fl [] 0]) := by kernel_rfl
@[simp] theorem fieldOf0_136 : fieldOf Try.prog 136 0 = some 0 := by kernel_rfl
@[simp] theorem fieldTy0_136 : fieldTy Try.prog 136 0 = some (4, 0) := by kernel_rfl
@[simp] theorem placeOf0_136 : placeOf Try.prog 136 0 = some (0, 1) := by kernel_rfl
@[simp] theorem fieldOf1_136 : fieldOf Try.prog 136 1 = some 1 := by kernel_rfl
@[simp] theorem fieldTy1_136 : fieldTy Try.prog 136 1 = some (9, 1) := by kernel_rfl
@[simp] theorem placeOf1_136 : placeOf Try.prog 136 1 = some (1, 1) := by kernel_rfl
@[simp] theorem fieldOf2_136 : fieldOf Try.prog 136 2 = some 2 := by kernel_rfl
@[simp] theorem fieldTy2_136 : fieldTy Try.prog 136 2 = some (133, 2) := by kernel_rfl
@[simp] theorem placeOf2_136 : placeOf Try.prog 136 2 = some (2, 1) := by kernel_rfl
@[simp] theorem fieldOf3_136 : fieldOf Try.prog 136 3 = some 3 := by kernel_rfl
@[simp] theorem fieldTy3_136 : fieldTy Try.prog 136 3 = some (134, 3) := by kernel_rfl
@[simp] theorem placeOf3_136 : placeOf Try.prog 136 3 = some (3, 1) := by kernel_rfl
@[simp] theorem sized_136 : sized Try.prog 136 = true := by kernel_rfl
@[simp] theorem loadG_136 {α : Type} (mk : List α → α) (cs : List α) (off : Nat) : loadG mk Try.prog 136 cs off = if off + 4 ≤ cs.length then some (mk ((cs.drop off).take 4)) else none := by kernel_rfl
@[simp] theorem szOf_138 : szOf Try.prog 138 = some (3) := by kernel_rfl
@[simp] theorem known_138 : known Try.prog 138 = true := by kernel_rfl
@[simp] theorem isString_138 : isString Try.prog 138 = false := by kernel_rfl
@[simp] theorem isSlice_138 : isSlice Try.prog 138 = false := by kernel_rfl
@[simp] theorem isIface_138 : isIface Try.prog 138 = some (false) := by kernel_rfl
@[simp] theorem concrete_138 : concrete Try.prog 138 = true := by kernel_rfl
@[simp] theorem bytesOf_138 : bytesOf Try.prog 138 = none := by kernel_rfl
@[simp] theorem zeroCellsOf_138 : zeroCellsOf Try.prog 138 = some [.d (.v (.string ⟨#[]⟩)), .d (.v (.string ⟨#[]⟩)), .fl [] 0] := by kernel_rfl
@[simp] theorem zeroS_138 : zeroS Try.prog 138 = some (.ag [.d (.v (.string ⟨#[]⟩)), .d (.v (.string ⟨#[]⟩)), .fl [] 0]) := by kernel_rfl
@[simp] theorem fieldOf0_138 : fieldOf Try.prog 138 0 = some 0 := by kernel_rfl
@[simp] theorem fieldTy0_138 : fieldTy Try.prog 138 0 = some (9, 0) := by kernel_rfl
@[simp] theorem placeOf0_138 : placeOf Try.prog 138 0 = some (0, 1) := by kernel_rfl
@[simp] theorem fieldOf1_138 : fieldOf Try.prog 138 1 = some 1 := by kernel_rfl
@[simp] theorem fieldTy1_138 : fieldTy Try.prog 138 1 = some (9, 1) := by kernel_rfl
@[simp] theorem placeOf1_138 : placeOf Try.prog 138 1 = some (1, 1) := by kernel_rfl
@[simp] theorem fieldOf2_138 : fieldOf Try.prog 138 2 = some 2 := by kernel_rfl
@[simp] theorem fieldTy2_138 : fieldTy Try.prog 138 2 = some (134, 2) := by kernel_rfl
@[simp] theorem placeOf2_138 : placeOf Try.prog 138 2 = some (2, 1) := by kernel_rfl
@[simp] theorem sized_138 : sized Try.prog 138 = true := by kernel_rfl
@[simp] theorem loadG_138 {α : Type} (mk : List α → α) (cs : List α) (off : Nat) : loadG mk Try.prog 138 cs off = if off + 3 ≤ cs.length then some (mk ((cs.drop off).take 3)) else none := by kernel_rfl
@[simp] theorem szOf_141 : szOf Try.prog 141 = some (1) := by kernel_rfl
@[simp] theorem known_141 : known Try.prog 141 = true := by kernel_rfl
@[simp] theorem isString_141 : isString Try.prog 141 = false := by kernel_rfl
@[simp] theorem isSlice_141 : isSlice Try.prog 141 = true := by kernel_rfl
@[simp] theorem isIface_141 : isIface Try.prog 141 = some (false) := by kernel_rfl
@[simp] theorem concrete_141 : concrete Try.prog 141 = true := by kernel_rfl
@[simp] theorem bytesOf_141 : bytesOf Try.prog 141 = none := by kernel_rfl
@[simp] theorem zeroCellsOf_141 : zeroCellsOf Try.prog 141 = some [.fl [] 0] := by kernel_rfl
@[simp] theorem zeroS_141 : zeroS Try.prog 141 = some (.fl [] 0) := by kernel_rfl
@[simp] theorem elemOf_141 : Sh.elemOf Try.prog 141 = some (187, 4) := by kernel_rfl
@[simp] theorem appOf_141 : appOf Try.prog 141 = some (187, 4, 72) := by kernel_rfl
@[simp] theorem makeOf_141 : makeOf Try.prog 141 = some ([.d (.v (.string ⟨#[]⟩)), .d (.v (.int .i64 0)), .fl [] 0, .fl [] 0], 4, 72) := by kernel_rfl
@[simp] theorem zerosOf_141 : zerosOf Try.prog 141 = some ([.v (.string ⟨#[]⟩), .v (.int .i64 0), .ps [] 0, .ps [] 0], 4) := by kernel_rfl
@[simp] theorem loadG_141 {α : Type} (mk : List α → α) (cs : List α) (off : Nat) : loadG mk Try.prog 141 cs off = cs[off]? := by kernel_rfl
@[simp] theorem szOf_146 : szOf Try.prog 146 = some (1) := by kernel_rfl
@[simp] theorem known_146 : known Try.prog 146 = true := by kernel_rfl
@[simp] theorem isString_146 : isString Try.prog 146 = false := by kernel_rfl
@[simp] theorem isSlice_146 : isSlice Try.prog 146 = true := by kernel_rfl
@[simp] theorem isIface_146 : isIface Try.prog 146 = some (false) := by kernel_rfl
@[simp] theorem concrete_146 : concrete Try.prog 146 = true := by kernel_rfl
@[simp] theorem bytesOf_146 : bytesOf Try.prog 146 = none := by kernel_rfl
@[simp] theorem zeroCellsOf_146 : zeroCellsOf Try.prog 146 = some [.fl [] 0] := by kernel_rfl
@[simp] theorem zeroS_146 : zeroS Try.prog 146 = some (.fl [] 0) := by kernel_rfl
@[simp] theorem elemOf_146 : Sh.elemOf Try.prog 146 = some (148, 3) := by kernel_rfl
@[simp] theorem appOf_146 : appOf Try.prog 146 = some (148, 3, 48) := by kernel_rfl
@[simp] theorem makeOf_146 : makeOf Try.prog 146 = some ([.d (.v (.string ⟨#[]⟩)), .fl [] 0, .d (.v (.bool false))], 3, 48) := by kernel_rfl
@[simp] theorem zerosOf_146 : zerosOf Try.prog 146 = some ([.v (.string ⟨#[]⟩), .ps [] 0, .v (.bool false)], 3) := by kernel_rfl
@[simp] theorem loadG_146 {α : Type} (mk : List α → α) (cs : List α) (off : Nat) : loadG mk Try.prog 146 cs off = cs[off]? := by kernel_rfl
@[simp] theorem szOf_148 : szOf Try.prog 148 = some (3) := by kernel_rfl
@[simp] theorem known_148 : known Try.prog 148 = true := by kernel_rfl
@[simp] theorem isString_148 : isString Try.prog 148 = false := by kernel_rfl
@[simp] theorem isSlice_148 : isSlice Try.prog 148 = false := by kernel_rfl
@[simp] theorem isIface_148 : isIface Try.prog 148 = some (false) := by kernel_rfl
@[simp] theorem concrete_148 : concrete Try.prog 148 = true := by kernel_rfl
@[simp] theorem bytesOf_148 : bytesOf Try.prog 148 = none := by kernel_rfl
@[simp] theorem zeroCellsOf_148 : zeroCellsOf Try.prog 148 = some [.d (.v (.string ⟨#[]⟩)), .fl [] 0, .d (.v (.bool false))] := by kernel_rfl
@[simp] theorem zeroS_148 : zeroS Try.prog 148 = some (.ag [.d (.v (.string ⟨#[]⟩)), .fl [] 0, .d (.v (.bool false))]) := by kernel_rfl
@[simp] theorem fieldOf0_148 : fieldOf Try.prog 148 0 = some 0 := by kernel_rfl
@[simp] theorem fieldTy0_148 : fieldTy Try.prog 148 0 = some (9, 0) := by kernel_rfl
@[simp] theorem placeOf0_148 : placeOf Try.prog 148 0 = some (0, 1) := by kernel_rfl
@[simp] theorem fieldOf1_148 : fieldOf Try.prog 148 1 = some 1 := by kernel_rfl
@[simp] theorem fieldTy1_148 : fieldTy Try.prog 148 1 = some (146, 1) := by kernel_rfl
@[simp] theorem placeOf1_148 : placeOf Try.prog 148 1 = some (1, 1) := by kernel_rfl
@[simp] theorem fieldOf2_148 : fieldOf Try.prog 148 2 = some 2 := by kernel_rfl
@[simp] theorem fieldTy2_148 : fieldTy Try.prog 148 2 = some (4, 2) := by kernel_rfl
@[simp] theorem placeOf2_148 : placeOf Try.prog 148 2 = some (2, 1) := by kernel_rfl
@[simp] theorem sized_148 : sized Try.prog 148 = true := by kernel_rfl
@[simp] theorem loadG_148 {α : Type} (mk : List α → α) (cs : List α) (off : Nat) : loadG mk Try.prog 148 cs off = if off + 3 ≤ cs.length then some (mk ((cs.drop off).take 3)) else none := by kernel_rfl
@[simp] theorem szOf_151 : szOf Try.prog 151 = some (10) := by kernel_rfl
@[simp] theorem known_151 : known Try.prog 151 = true := by kernel_rfl
@[simp] theorem isString_151 : isString Try.prog 151 = false := by kernel_rfl
@[simp] theorem isSlice_151 : isSlice Try.prog 151 = false := by kernel_rfl
@[simp] theorem isIface_151 : isIface Try.prog 151 = some (false) := by kernel_rfl
@[simp] theorem concrete_151 : concrete Try.prog 151 = true := by kernel_rfl
@[simp] theorem bytesOf_151 : bytesOf Try.prog 151 = none := by kernel_rfl
@[simp] theorem zeroCellsOf_151 : zeroCellsOf Try.prog 151 = some [.d (.v (.string ⟨#[]⟩)), .d (.v (.string ⟨#[]⟩)), .fl [] 0, .d (.v (.bool false)), .d (.v (.bool false)), .d (.v (.int .i64 0)), .d (.v (.int .i64 0)), .d (.v (.string ⟨#[]⟩)), .fl [] 0, .fl [] 0] := by kernel_rfl
@[simp] theorem zeroS_151 : zeroS Try.prog 151 = some (.ag [.d (.v (.string ⟨#[]⟩)), .d (.v (.string ⟨#[]⟩)), .fl [] 0, .d (.v (.bool false)), .d (.v (.bool false)), .d (.v (.int .i64 0)), .d (.v (.int .i64 0)), .d (.v (.string ⟨#[]⟩)), .fl [] 0, .fl [] 0]) := by kernel_rfl
@[simp] theorem fieldOf0_151 : fieldOf Try.prog 151 0 = some 0 := by kernel_rfl
@[simp] theorem fieldTy0_151 : fieldTy Try.prog 151 0 = some (9, 0) := by kernel_rfl
@[simp] theorem placeOf0_151 : placeOf Try.prog 151 0 = some (0, 1) := by kernel_rfl
@[simp] theorem fieldOf1_151 : fieldOf Try.prog 151 1 = some 1 := by kernel_rfl
@[simp] theorem fieldTy1_151 : fieldTy Try.prog 151 1 = some (148, 1) := by kernel_rfl
@[simp] theorem placeOf1_151 : placeOf Try.prog 151 1 = some (1, 3) := by kernel_rfl
@[simp] theorem fieldOf2_151 : fieldOf Try.prog 151 2 = some 4 := by kernel_rfl
@[simp] theorem fieldTy2_151 : fieldTy Try.prog 151 2 = some (4, 4) := by kernel_rfl
@[simp] theorem placeOf2_151 : placeOf Try.prog 151 2 = some (4, 1) := by kernel_rfl
@[simp] theorem fieldOf3_151 : fieldOf Try.prog 151 3 = some 5 := by kernel_rfl
@[simp] theorem fieldTy3_151 : fieldTy Try.prog 151 3 = some (27, 5) := by kernel_rfl
@[simp] theorem placeOf3_151 : placeOf Try.prog 151 3 = some (5, 5) := by kernel_rfl
@[simp] theorem sized_151 : sized Try.prog 151 = true := by kernel_rfl
@[simp] theorem loadG_151 {α : Type} (mk : List α → α) (cs : List α) (off : Nat) : loadG mk Try.prog 151 cs off = if off + 10 ≤ cs.length then some (mk ((cs.drop off).take 10)) else none := by kernel_rfl
@[simp] theorem szOf_159 : szOf Try.prog 159 = some (1) := by kernel_rfl
@[simp] theorem known_159 : known Try.prog 159 = true := by kernel_rfl
@[simp] theorem isString_159 : isString Try.prog 159 = false := by kernel_rfl
@[simp] theorem isSlice_159 : isSlice Try.prog 159 = false := by kernel_rfl
@[simp] theorem isIface_159 : isIface Try.prog 159 = some (false) := by kernel_rfl
@[simp] theorem concrete_159 : concrete Try.prog 159 = true := by kernel_rfl
@[simp] theorem bytesOf_159 : bytesOf Try.prog 159 = none := by kernel_rfl
@[simp] theorem zeroCellsOf_159 : zeroCellsOf Try.prog 159 = some [.d (.v (.pointer none))] := by kernel_rfl
@[simp] theorem zeroS_159 : zeroS Try.prog 159 = some (.d (.v (.pointer none))) := by kernel_rfl
@[simp] theorem nilEqN_159 : evalNil Try.prog .eql 159 (.d (.v (.pointer none))) (.pointer none) = some (.d (.v (.bool true))) := by kernel_rfl
@[simp] theorem nilNeN_159 : evalNil Try.prog .neq 159 (.d (.v (.pointer none))) (.pointer none) = some (.d (.v (.bool false))) := by kernel_rfl
@[simp] theorem nilEqO_159 (b off : Nat) : evalNil Try.prog .eql 159 (.op b off) (.pointer none) = some (.d (.v (.bool false))) := by kernel_rfl
@[simp] theorem nilNeO_159 (b off : Nat) : evalNil Try.prog .neq 159 (.op b off) (.pointer none) = some (.d (.v (.bool true))) := by kernel_rfl
@[simp] theorem nilEqP_159 (cs : List D) (off : Nat) : evalNil Try.prog .eql 159 (.d (.pp cs off)) (.pointer none) = some (.d (.v (.bool false))) := by kernel_rfl
@[simp] theorem nilNeP_159 (cs : List D) (off : Nat) : evalNil Try.prog .neq 159 (.d (.pp cs off)) (.pointer none) = some (.d (.v (.bool true))) := by kernel_rfl
@[simp] theorem loadG_159 {α : Type} (mk : List α → α) (cs : List α) (off : Nat) : loadG mk Try.prog 159 cs off = cs[off]? := by kernel_rfl
@[simp] theorem szOf_161 : szOf Try.prog 161 = some (4) := by kernel_rfl
@[simp] theorem known_161 : known Try.prog 161 = true := by kernel_rfl
@[simp] theorem isString_161 : isString Try.prog 161 = false := by kernel_rfl
@[simp] theorem isSlice_161 : isSlice Try.prog 161 = false := by kernel_rfl
@[simp] theorem isIface_161 : isIface Try.prog 161 = some (false) := by kernel_rfl
@[simp] theorem concrete_161 : concrete Try.prog 161 = true := by kernel_rfl
@[simp] theorem bytesOf_161 : bytesOf Try.prog 161 = none := by kernel_rfl
@[simp] theorem zeroCellsOf_161 : zeroCellsOf Try.prog 161 = some [.d (.v (.pointer none)), .d (.v (.int .i64 0)), .fl [] 0, .d (.v (.pointer none))] := by kernel_rfl
@[simp] theorem zeroS_161 : zeroS Try.prog 161 = some (.ag [.d (.v (.pointer none)), .d (.v (.int .i64 0)), .fl [] 0, .d (.v (.pointer none))]) := by kernel_rfl
@[simp] theorem fieldOf0_161 : fieldOf Try.prog 161 0 = some 0 := by kernel_rfl
@[simp] theorem fieldTy0_161 : fieldTy Try.prog 161 0 = some (94, 0) := by kernel_rfl
@[simp] theorem placeOf0_161 : placeOf Try.prog 161 0 = some (0, 2) := by kernel_rfl
@[simp] theorem fieldOf1_161 : fieldOf Try.prog 161 1 = some 2 := by kernel_rfl
@[simp] theorem fieldTy1_161 : fieldTy Try.prog 161 1 = some (24, 2) := by kernel_rfl
@[simp] theorem placeOf1_161 : placeOf Try.prog 161 1 = some (2, 1) := by kernel_rfl
@[simp] theorem fieldOf2_161 : fieldOf Try.prog 161 2 = some 3 := by kernel_rfl
@[simp] theorem fieldTy2_161 : fieldTy Try.prog 161 2 = some (159, 3) := by kernel_rfl
@[simp] theorem placeOf2_161 : placeOf Try.prog 161 2 = some (3, 1) := by kernel_rfl
@[simp] theorem sized_161 : sized Try.prog 161 = true := by kernel_rfl
@[simp] theorem loadG_161 {α : Type} (mk : List α → α) (cs : List α) (off : Nat) : loadG mk Try.prog 161 cs off = if off + 4 ≤ cs.length then some (mk ((cs.drop off).take 4)) else none := by kernel_rfl
@[simp] theorem szOf_162 : szOf Try.prog 162 = some (0) := by kernel_rfl
@[simp] theorem known_162 : known Try.prog 162 = true := by kernel_rfl
@[simp] theorem isString_162 : isString Try.prog 162 = false := by kernel_rfl
@[simp] theorem isSlice_162 : isSlice Try.prog 162 = false := by kernel_rfl
@[simp] theorem isIface_162 : isIface Try.prog 162 = some (false) := by kernel_rfl
@[simp] theorem concrete_162 : concrete Try.prog 162 = true := by kernel_rfl
@[simp] theorem bytesOf_162 : bytesOf Try.prog 162 = none := by kernel_rfl
@[simp] theorem zeroCellsOf_162 : zeroCellsOf Try.prog 162 = some [] := by kernel_rfl
@[simp] theorem zeroS_162 : zeroS Try.prog 162 = some (.ag []) := by kernel_rfl
@[simp] theorem sized_162 : sized Try.prog 162 = true := by kernel_rfl
@[simp] theorem loadG_162 {α : Type} (mk : List α → α) (cs : List α) (off : Nat) : loadG mk Try.prog 162 cs off = if off + 0 ≤ cs.length then some (mk ((cs.drop off).take 0)) else none := by kernel_rfl
@[simp] theorem szOf_163 : szOf Try.prog 163 = some (1) := by kernel_rfl
@[simp] theorem known_163 : known Try.prog 163 = true := by kernel_rfl
@[simp] theorem isString_163 : isString Try.prog 163 = false := by kernel_rfl
@[simp] theorem isSlice_163 : isSlice Try.prog 163 = false := by kernel_rfl
@[simp] theorem isIface_163 : isIface Try.prog 163 = some (false) := by kernel_rfl
@[simp] theorem concrete_163 : concrete Try.prog 163 = true := by kernel_rfl
@[simp] theorem bytesOf_163 : bytesOf Try.prog 163 = none := by kernel_rfl
@[simp] theorem zeroCellsOf_163 : zeroCellsOf Try.prog 163 = some [.d (.v (.bool false))] := by kernel_rfl
@[simp] theorem zeroS_163 : zeroS Try.prog 163 = some (.d (.v (.bool false))) := by kernel_rfl
@[simp] theorem boolEq_163 (a b : Bool) : binS Try.prog .eql 163 (.bool a) (.bool b) = some (.bool (a == b)) := by kernel_rfl
@[simp] theorem boolNe_163 (a b : Bool) : binS Try.prog .neq 163 (.bool a) (.bool b) = some (.bool (!(a == b))) := by kernel_rfl
@[simp] theorem loadG_163 {α : Type} (mk : List α → α) (cs : List α) (off : Nat) : loadG mk Try.prog 163 cs off = cs[off]? := by kernel_rfl
@[simp] theorem szOf_164 : szOf Try.prog 164 = some (1) := by kernel_rfl
@[simp] theorem known_164 : known Try.prog 164 = true := by kernel_rfl
@[simp] theorem isString_164 : isString Try.prog 164 = false := by kernel_rfl
@[simp] theorem isSlice_164 : isSlice Try.prog 164 = false := by kernel_rfl
@[simp] theorem isIface_164 : isIface Try.prog 164 = some (false) := by kernel_rfl
@[simp] theorem concrete_164 : concrete Try.prog 164 = true := by kernel_rfl
@[simp] theorem bytesOf_164 : bytesOf Try.prog 164 = none := by kernel_rfl
@[simp] theorem zeroCellsOf_164 : zeroCellsOf Try.prog 164 = some [.d (.v (.int .i64 0))] := by kernel_rfl
@[simp] theorem zeroS_164 : zeroS Try.prog 164 = some (.d (.v (.int .i64 0))) := by kernel_rfl
@[simp] theorem intKindOf_164 : intKindOf Try.prog 164 = some .i64 := by kernel_rfl
@[simp] theorem loadG_164 {α : Type} (mk : List α → α) (cs : List α) (off : Nat) : loadG mk Try.prog 164 cs off = cs[off]? := by kernel_rfl
@[simp] theorem szOf_165 : szOf Try.prog 165 = some (1) := by kernel_rfl
@[simp] theorem known_165 : known Try.prog 165 = true := by kernel_rfl
@[simp] theorem isString_165 : isString Try.prog 165 = true := by kernel_rfl
@[simp] theorem isSlice_165 : isSlice Try.prog 165 = false := by kernel_rfl
@[simp] theorem isIface_165 : isIface Try.prog 165 = some (false) := by kernel_rfl
@[simp] theorem concrete_165 : concrete Try.prog 165 = true := by kernel_rfl
@[simp] theorem bytesOf_165 : bytesOf Try.prog 165 = none := by kernel_rfl
@[simp] theorem zeroCellsOf_165 : zeroCellsOf Try.prog 165 = some [.d (.v (.string ⟨#[]⟩))] := by kernel_rfl
@[simp] theorem zeroS_165 : zeroS Try.prog 165 = some (.d (.v (.string ⟨#[]⟩))) := by kernel_rfl
@[simp] theorem loadG_165 {α : Type} (mk : List α → α) (cs : List α) (off : Nat) : loadG mk Try.prog 165 cs off = cs[off]? := by kernel_rfl
@[simp] theorem szOf_166 : szOf Try.prog 166 = some (1) := by kernel_rfl
@[simp] theorem known_166 : known Try.prog 166 = true := by kernel_rfl
@[simp] theorem isString_166 : isString Try.prog 166 = false := by kernel_rfl
@[simp] theorem isSlice_166 : isSlice Try.prog 166 = true := by kernel_rfl
@[simp] theorem isIface_166 : isIface Try.prog 166 = some (false) := by kernel_rfl
@[simp] theorem concrete_166 : concrete Try.prog 166 = true := by kernel_rfl
@[simp] theorem bytesOf_166 : bytesOf Try.prog 166 = none := by kernel_rfl
@[simp] theorem zeroCellsOf_166 : zeroCellsOf Try.prog 166 = some [.fl [] 0] := by kernel_rfl
@[simp] theorem zeroS_166 : zeroS Try.prog 166 = some (.fl [] 0) := by kernel_rfl
@[simp] theorem elemOf_166 : Sh.elemOf Try.prog 166 = some (27, 5) := by kernel_rfl
@[simp] theorem appOf_166 : appOf Try.prog 166 = some (27, 5, 80) := by kernel_rfl
@[simp] theorem makeOf_166 : makeOf Try.prog 166 = some ([.d (.v (.int .i64 0)), .d (.v (.int .i64 0)), .d (.v (.string ⟨#[]⟩)), .fl [] 0, .fl [] 0], 5, 80) := by kernel_rfl
@[simp] theorem zerosOf_166 : zerosOf Try.prog 166 = some ([.v (.int .i64 0), .v (.int .i64 0), .v (.string ⟨#[]⟩), .ps [] 0, .ps [] 0], 5) := by kernel_rfl
@[simp] theorem loadG_166 {α : Type} (mk : List α → α) (cs : List α) (off : Nat) : loadG mk Try.prog 166 cs off = cs[off]? := by kernel_rfl
@[simp] theorem szOf_168 : szOf Try.prog 168 = some (2) := by kernel_rfl
@[simp] theorem known_168 : known Try.prog 168 = true := by kernel_rfl
@[simp] theorem isString_168 : isString Try.prog 168 = false := by kernel_rfl
@[simp] theorem isSlice_168 : isSlice Try.prog 168 = false := by kernel_rfl
@[simp] theorem isIface_168 : isIface Try.prog 168 = some (false) := by kernel_rfl
@[simp] theorem concrete_168 : concrete Try.prog 168 = true := by kernel_rfl
@[simp] theorem bytesOf_168 : bytesOf Try.prog 168 = none := by kernel_rfl
@[simp] theorem zeroCellsOf_168 : zeroCellsOf Try.prog 168 = some [.fl [] 0, .fl [] 0] := by kernel_rfl
@[simp] theorem zeroS_168 : zeroS Try.prog 168 = some (.ag [.fl [] 0, .fl [] 0]) := by kernel_rfl
@[simp] theorem fieldOf0_168 : fieldOf Try.prog 168 0 = some 0 := by kernel_rfl
@[simp] theorem fieldTy0_168 : fieldTy Try.prog 168 0 = some (25, 0) := by kernel_rfl
@[simp] theorem placeOf0_168 : placeOf Try.prog 168 0 = some (0, 1) := by kernel_rfl
@[simp] theorem fieldOf1_168 : fieldOf Try.prog 168 1 = some 1 := by kernel_rfl
@[simp] theorem fieldTy1_168 : fieldTy Try.prog 168 1 = some (24, 1) := by kernel_rfl
@[simp] theorem placeOf1_168 : placeOf Try.prog 168 1 = some (1, 1) := by kernel_rfl
@[simp] theorem sized_168 : sized Try.prog 168 = true := by kernel_rfl
@[simp] theorem loadG_168 {α : Type} (mk : List α → α) (cs : List α) (off : Nat) : loadG mk Try.prog 168 cs off = if off + 2 ≤ cs.length then some (mk ((cs.drop off).take 2)) else none := by kernel_rfl
@[simp] theorem szOf_175 : szOf Try.prog 175 = some (1) := by kernel_rfl
@[simp] theorem known_175 : known Try.prog 175 = true := by kernel_rfl
@[simp] theorem isString_175 : isString Try.prog 175 = false := by kernel_rfl
@[simp] theorem isSlice_175 : isSlice Try.prog 175 = true := by kernel_rfl
@[simp] theorem isIface_175 : isIface Try.prog 175 = some (false) := by kernel_rfl
@[simp] theorem concrete_175 : concrete Try.prog 175 = true := by kernel_rfl
@[simp] theorem bytesOf_175 : bytesOf Try.prog 175 = none := by kernel_rfl
@[simp] theorem zeroCellsOf_175 : zeroCellsOf Try.prog 175 = some [.fl [] 0] := by kernel_rfl
@[simp] theorem zeroS_175 : zeroS Try.prog 175 = some (.fl [] 0) := by kernel_rfl
@[simp] theorem elemOf_175 : Sh.elemOf Try.prog 175 = some (194, 6) := by kernel_rfl
@[simp] theorem appOf_175 : appOf Try.prog 175 = some (194, 6, 96) := by kernel_rfl
@[simp] theorem makeOf_175 : makeOf Try.prog 175 = some ([.d (.v (.string ⟨#[]⟩)), .d (.v (.int .i64 0)), .d (.v (.int .i64 0)), .d (.v (.string ⟨#[]⟩)), .fl [] 0, .fl [] 0], 6, 96) := by kernel_rfl
@[simp] theorem zerosOf_175 : zerosOf Try.prog 175 = some ([.v (.string ⟨#[]⟩), .v (.int .i64 0), .v (.int .i64 0), .v (.string ⟨#[]⟩), .ps [] 0, .ps [] 0], 6) := by kernel_rfl
@[simp] theorem loadG_175 {α : Type} (mk : List α → α) (cs : List α) (off : Nat) : loadG mk Try.prog 175 cs off = cs[off]? := by kernel_rfl
@[simp] theorem szOf_176 : szOf Try.prog 176 = some (1) := by kernel_rfl
@[simp] theorem known_176 : known Try.prog 176 = true := by kernel_rfl
@[simp] theorem isString_176 : isString Try.prog 176 = false := by kernel_rfl
@[simp] theorem isSlice_176 : isSlice Try.prog 176 = true := by kernel_rfl
@[simp] theorem isIface_176 : isIface Try.prog 176 = some (false) := by kernel_rfl
@[simp] theorem concrete_176 : concrete Try.prog 176 = true := by kernel_rfl
@[simp] theorem bytesOf_176 : bytesOf Try.prog 176 = none := by kernel_rfl
@[simp] theorem zeroCellsOf_176 : zeroCellsOf Try.prog 176 = some [.fl [] 0] := by kernel_rfl
@[simp] theorem zeroS_176 : zeroS Try.prog 176 = some (.fl [] 0) := by kernel_rfl
@[simp] theorem elemOf_176 : Sh.elemOf Try.prog 176 = some (196, 6) := by kernel_rfl
@[simp] theorem appOf_176 : appOf Try.prog 176 = some (196, 6, 88) := by kernel_rfl
@[simp] theorem makeOf_176 : makeOf Try.prog 176 = some ([.d (.v (.bool false)), .d (.v (.int .i64 0)), .d (.v (.int .i64 0)), .d (.v (.string ⟨#[]⟩)), .fl [] 0, .fl [] 0], 6, 88) := by kernel_rfl
@[simp] theorem zerosOf_176 : zerosOf Try.prog 176 = some ([.v (.bool false), .v (.int .i64 0), .v (.int .i64 0), .v (.string ⟨#[]⟩), .ps [] 0, .ps [] 0], 6) := by kernel_rfl
@[simp] theorem loadG_176 {α : Type} (mk : List α → α) (cs : List α) (off : Nat) : loadG mk Try.prog 176 cs off = cs[off]? := by kernel_rfl
@[simp] theorem szOf_178 : szOf Try.prog 178 = some (6) := by kernel_rfl
@[simp] theorem known_178 : known Try.prog 178 = true := by kernel_rfl
@[simp] theorem isString_178 : isString Try.prog 178 = false := by kernel_rfl
@[simp] theorem isSlice_178 : isSlice Try.prog 178 = false := by kernel_rfl
@[simp] theorem isIface_178 : isIface Try.prog 178 = some (false) := by kernel_rfl
@[simp] theorem concrete_178 : concrete Try.prog 178 = true := by kernel_rfl
@[simp] theorem bytesOf_178 : bytesOf Try.prog 178 = none := by kernel_rfl
@[simp] theorem zeroCellsOf_178 : zeroCellsOf Try.prog 178 = some [.d (.v (.int .i64 0)), .d (.v (.string ⟨#[]⟩)), .d (.v (.string ⟨#[]⟩)), .fl [] 0, .fl [] 0, .fl [] 0] := by kernel_rfl
@[simp] theorem zeroS_178 : zeroS Try.prog 178 = some (.ag [.d (.v (.int .i64 0)), .d (.v (.string ⟨#[]⟩)), .d (.v (.string ⟨#[]⟩)), .fl [] 0, .fl [] 0, .fl [] 0]) := by kernel_rfl
@[simp] theorem fieldOf0_178 : fieldOf Try.prog 178 0 = some 0 := by kernel_rfl
@[simp] theorem fieldTy0_178 : fieldTy Try.prog 178 0 = some (3, 0) := by kernel_rfl
@[simp] theorem placeOf0_178 : placeOf Try.prog 178 0 = some (0, 1) := by kernel_rfl
@[simp] theorem fieldOf1_178 : fieldOf Try.prog 178 1 = some 1 := by kernel_rfl
@[simp] theorem fieldTy1_178 : fieldTy Try.prog 178 1 = some (9, 1) := by kernel_rfl
@[simp] theorem placeOf1_178 : placeOf Try.prog 178 1 = some (1, 1) := by kernel_rfl
@[simp] theorem fieldOf2_178 : fieldOf Try.prog 178 2 = some 2 := by kernel_rfl
@[simp] theorem fieldTy2_178 : fieldTy Try.prog 178 2 = some (9, 2) := by kernel_rfl
@[simp] theorem placeOf2_178 : placeOf Try.prog 178 2 = some (2, 1) := by kernel_rfl
@[simp] theorem fieldOf3_178 : fieldOf Try.prog 178 3 = some 3 := by kernel_rfl
@[simp] theorem fieldTy3_178 : fieldTy Try.prog 178 3 = some (175, 3) := by kernel_rfl
@[simp] theorem placeOf3_178 : placeOf Try.prog 178 3 = some (3, 1) := by kernel_rfl
@[simp] theorem fieldOf4_178 : fieldOf Try.prog 178 4 = some 4 := by kernel_rfl
@[simp] theorem fieldTy4_178 : fieldTy Try.prog 178 4 = some (176, 4) := by kernel_rfl
@[simp] theorem placeOf4_178 : placeOf Try.prog 178 4 = some (4, 1) := by kernel_rfl
@[simp] theorem fieldOf5_178 : fieldOf Try.prog 178 5 = some 5 := by kernel_rfl
@[simp] theorem fieldTy5_178 : fieldTy Try.prog 178 5 = some (134, 5) := by kernel_rfl
@[simp] theorem placeOf5_178 : placeOf Try.prog 178 5 = some (5, 1) := by kernel_rfl
@[simp] theorem sized_178 : sized Try.prog 178 = true := by kernel_rfl
@[simp] theorem loadG_178 {α : Type} (mk : List α → α) (cs : List α) (off : Nat) : loadG mk Try.prog 178 cs off = if off + 6 ≤ cs.length then some (mk ((cs.drop off).take 6)) else none := by kernel_rfl
@[simp] theorem szOf_185 : szOf Try.prog 185 = some (1) := by kernel_rfl
@[simp] theorem known_185 : known Try.prog 185 = true := by kernel_rfl
@[simp] theorem isString_185 : isString Try.prog 185 = false := by kernel_rfl
@[simp] theorem isSlice_185 : isSlice Try.prog 185 = true := by kernel_rfl
@[simp] theorem isIface_185 : isIface Try.prog 185 = some (false) := by kernel_rfl
@[simp] theorem concrete_185 : concrete Try.prog 185 = true := by kernel_rfl
@[simp] theorem bytesOf_185 : bytesOf Try.prog 185 = none := by kernel_rfl
@[simp] theorem zeroCellsOf_185 : zeroCellsOf Try.prog 185 = some [.fl [] 0] := by kernel_rfl
@[simp] theorem zeroS_185 : zeroS Try.prog 185 = some (.fl [] 0) := by kernel_rfl
@[simp] theorem elemOf_185 : Sh.elemOf Try.prog 185 = some (190, 5) := by kernel_rfl
@[simp] theorem appOf_185 : appOf Try.prog 185 = some (190, 5, 88) := by kernel_rfl
@[simp] theorem makeOf_185 : makeOf Try.prog 185 = some ([.d (.v (.string ⟨#[]⟩)), .fl [] 0, .d (.v (.string ⟨#[]⟩)), .fl [] 0, .d (.v (.bool false))], 5, 88) := by kernel_rfl
@[simp] theorem zerosOf_185 : zerosOf Try.prog 185 = some ([.v (.string ⟨#[]⟩), .ps [] 0, .v (.string ⟨#[]⟩), .ps [] 0, .v (.bool false)], 5) := by kernel_rfl
@[simp] theorem loadG_185 {α : Type} (mk : List α → α) (cs : List α) (off : Nat) : loadG mk Try.prog 185 cs off = cs[off]? := by kernel_rfl
@[simp] theorem szOf_187 : szOf Try.prog 187 = some (4) := by kernel_rfl
@[simp] theorem known_187 : known Try.prog 187 = true := by kernel_rfl
@[simp] theorem isString_187 : isString Try.prog 187 = false := by kernel_rfl
@[simp] theorem isSlice_187 : isSlice Try.prog 187 = false := by kernel_rfl
@[simp] theorem isIface_187 : isIface Try.prog 187 = some (false) := by kernel_rfl
@[simp] theorem concrete_187 : concrete Try.prog 187 = true := by kernel_rfl
@[simp] theorem bytesOf_187 : bytesOf Try.prog 187 = none := by kernel_rfl
@[simp] theorem zeroCellsOf_187 : zeroCellsOf Try.prog 187 = some [.d (.v (.string ⟨#[]⟩)), .d (.v (.int .i64 0)), .fl [] 0, .fl [] 0] := by kernel_rfl
@[simp] theorem zeroS_187 : zeroS Try.prog 187 = some (.ag [.d (.v (.string ⟨#[]⟩)), .d (.v (.int .i64 0)), .fl [] 0, .fl [] 0]) := by kernel_rfl
@[simp] theorem fieldOf0_187 : fieldOf Try.prog 187 0 = some 0 := by kernel_rfl
@[simp] theorem fieldTy0_187 : fieldTy Try.prog 187 0 = some (9, 0) := by kernel_rfl
@[simp] theorem placeOf0_187 : placeOf Try.prog 187 0 = some (0, 1) := by kernel_rfl
@[simp] theorem fieldOf1_187 : fieldOf Try.prog 187 1 = some 1 := by kernel_rfl
@[simp] theorem fieldTy1_187 : fieldTy Try.prog 187 1 = some (3, 1) := by kernel_rfl
@[simp] theorem placeOf1_187 : placeOf Try.prog 187 1 = some (1, 1) := by kernel_rfl
@[simp] theorem fieldOf2_187 : fieldOf Try.prog 187 2 = some 2 := by kernel_rfl
@[simp] theorem fieldTy2_187 : fieldTy Try.prog 187 2 = some (185, 2) := by kernel_rfl
@[simp] theorem placeOf2_187 : placeOf Try.prog 187 2 = some (2, 1) := by kernel_rfl
@[simp] theorem fieldOf3_187 : fieldOf Try.prog 187 3 = some 3 := by kernel_rfl
@[simp] theorem fieldTy3_187 : fieldTy Try.prog 187 3 = some (25, 3) := by kernel_rfl
@[simp] theorem placeOf3_187 : placeOf Try.prog 187 3 = some (3, 1) := by kernel_rfl
@[simp] theorem sized_187 : sized Try.prog 187 = true := by kernel_rfl
@[simp] theorem loadG_187 {α : Type} (mk : List α → α) (cs : List α) (off : Nat) : loadG mk Try.prog 187 cs off = if off + 4 ≤ cs.length then some (mk ((cs.drop off).take 4)) else none := by kernel_rfl
@[simp] theorem szOf_188 : szOf Try.prog 188 = some (1) := by kernel_rfl
@[simp] theorem known_188 : known Try.prog 188 = true := by kernel_rfl
@[simp] theorem isString_188 : isString Try.prog 188 = false := by kernel_rfl
@[simp] theorem isSlice_188 : isSlice Try.prog 188 = true := by kernel_rfl
@[simp] theorem isIface_188 : isIface Try.prog 188 = some (false) := by kernel_rfl
@[simp] theorem concrete_188 : concrete Try.prog 188 = true := by kernel_rfl
@[simp] theorem bytesOf_188 : bytesOf Try.prog 188 = none := by kernel_rfl
@[simp] theorem zeroCellsOf_188 : zeroCellsOf Try.prog 188 = some [.fl [] 0] := by kernel_rfl
@[simp] theorem zeroS_188 : zeroS Try.prog 188 = some (.fl [] 0) := by kernel_rfl
@[simp] theorem elemOf_188 : Sh.elemOf Try.prog 188 = some (191, 10) := by kernel_rfl
@[simp] theorem appOf_188 : appOf Try.prog 188 = some (191, 10, 152) := by kernel_rfl
@[simp] theorem makeOf_188 : makeOf Try.prog 188 = some ([.d (.v (.string ⟨#[]⟩)), .d (.v (.string ⟨#[]⟩)), .fl [] 0, .d (.v (.bool false)), .d (.v (.bool false)), .d (.v (.int .i64 0)), .d (.v (.int .i64 0)), .d (.v (.string ⟨#[]⟩)), .fl [] 0, .fl [] 0], 10, 152) := by kernel_rfl
@[simp] theorem zerosOf_188 : zerosOf Try.prog 188 = some ([.v (.string ⟨#[]⟩), .v (.string ⟨#[]⟩), .ps [] 0, .v (.bool false), .v (.bool false), .v (.int .i64 0), .v (.int .i64 0), .v (.string ⟨#[]⟩), .ps [] 0, .ps [] 0], 10) := by kernel_rfl
@[simp] theorem loadG_188 {α : Type} (mk : List α → α) (cs : List α) (off : Nat) : loadG mk Try.prog 188 cs off = cs[off]? := by kernel_rfl
@[simp] theorem szOf_190 : szOf Try.prog 190 = some (5) := by kernel_rfl
@[simp] theorem known_190 : known Try.prog 190 = true := by kernel_rfl
@[simp] theorem isString_190 : isString Try.prog 190 = false := by kernel_rfl
@[simp] theorem isSlice_190 : isSlice Try.prog 190 = false := by kernel_rfl
@[simp] theorem isIface_190 : isIface Try.prog 190 = some (false) := by kernel_rfl
@[simp] theorem concrete_190 : concrete Try.prog 190 = true := by kernel_rfl
@[simp] theorem bytesOf_190 : bytesOf Try.prog 190 = none := by kernel_rfl
@[simp] theorem zeroCellsOf_190 : zeroCellsOf Try.prog 190 = some [.d (.v (.string ⟨#[]⟩)), .fl [] 0, .d (.v (.string ⟨#[]⟩)), .fl [] 0, .d (.v (.bool false))] := by kernel_rfl
@[simp] theorem zeroS_190 : zeroS Try.prog 190 = some (.ag [.d (.v (.string ⟨#[]⟩)), .fl [] 0, .d (.v (.string ⟨#[]⟩)), .fl [] 0, .d (.v (.bool false))]) := by kernel_rfl
@[simp] theorem fieldOf0_190 : fieldOf Try.prog 190 0 = some 0 := by kernel_rfl
@[simp] theorem fieldTy0_190 : fieldTy Try.prog 190 0 = some (9, 0) := by kernel_rfl
@[simp] theorem placeOf0_190 : placeOf Try.prog 190 0 = some (0, 1) := by kernel_rfl
@[simp] theorem fieldOf1_190 : fieldOf Try.prog 190 1 = some 1 := by kernel_rfl
@[simp] theorem fieldTy1_190 : fieldTy Try.prog 190 1 = some (188, 1) := by kernel_rfl
@[simp] theorem placeOf1_190 : placeOf Try.prog 190 1 = some (1, 1) := by kernel_rfl
@[simp] theorem fieldOf2_190 : fieldOf Try.prog 190 2 = some 2 := by kernel_rfl
@[simp] theorem fieldTy2_190 : fieldTy Try.prog 190 2 = some (148, 2) := by kernel_rfl
@[simp] theorem placeOf2_190 : placeOf Try.prog 190 2 = some (2, 3) := by kernel_rfl
@[simp] theorem sized_190 : sized Try.prog 190 = true := by kernel_rfl
@[simp] theorem loadG_190 {α : Type} (mk : List α → α) (cs : List α) (off : Nat) : loadG mk Try.prog 190 cs off = if off + 5 ≤ cs.length then some (mk ((cs.drop off).take 5)) else none := by kernel_rfl
@[simp] theorem szOf_191 : szOf Try.prog 191 = some (10) := by kernel_rfl
@[simp] theorem known_191 : known Try.prog 191 = true := by kernel_rfl
@[simp] theorem isString_191 : isString Try.prog 191 = false := by kernel_rfl
@[simp] theorem isSlice_191 : isSlice Try.prog 191 = false := by kernel_rfl
@[simp] theorem isIface_191 : isIface Try.prog 191 = some (false) := by kernel_rfl
@[simp] theorem concrete_191 : concrete Try.prog 191 = true := by kernel_rfl
@[simp] theorem bytesOf_191 : bytesOf Try.prog 191 = none := by kernel_rfl
@[simp] theorem zeroCellsOf_191 : zeroCellsOf Try.prog 191 = some [.d (.v (.string ⟨#[]⟩)), .d (.v (.string ⟨#[]⟩)), .fl [] 0, .d (.v (.bool false)), .d (.v (.bool false)), .d (.v (.int .i64 0)), .d (.v (.int .i64 0)), .d (.v (.string ⟨#[]⟩)), .fl [] 0, .fl [] 0] := by kernel_rfl
@[simp] theorem zeroS_191 : zeroS Try.prog 191 = some (.ag [.d (.v (.string ⟨#[]⟩)), .d (.v (.string ⟨#[]⟩)), .fl [] 0, .d (.v (.bool false)), .d (.v (.bool false)), .d (.v (.int .i64 0)), .d (.v (.int .i64 0)), .d (.v (.string ⟨#[]⟩)), .fl [] 0, .fl [] 0]) := by kernel_rfl
@[simp] theorem fieldOf0_191 : fieldOf Try.prog 191 0 = some 0 := by kernel_rfl
@[simp] theorem fieldTy0_191 : fieldTy Try.prog 191 0 = some (9, 0) := by kernel_rfl
@[simp] theorem placeOf0_191 : placeOf Try.prog 191 0 = some (0, 1) := by kernel_rfl
@[simp] theorem fieldOf1_191 : fieldOf Try.prog 191 1 = some 1 := by kernel_rfl
@[simp] theorem fieldTy1_191 : fieldTy Try.prog 191 1 = some (148, 1) := by kernel_rfl
@[simp] theorem placeOf1_191 : placeOf Try.prog 191 1 = some (1, 3) := by kernel_rfl
@[simp] theorem fieldOf2_191 : fieldOf Try.prog 191 2 = some 4 := by kernel_rfl
@[simp] theorem fieldTy2_191 : fieldTy Try.prog 191 2 = some (4, 4) := by kernel_rfl
@[simp] theorem placeOf2_191 : placeOf Try.prog 191 2 = some (4, 1) := by kernel_rfl
@[simp] theorem fieldOf3_191 : fieldOf Try.prog 191 3 = some 5 := by kernel_rfl
@[simp] theorem fieldTy3_191 : fieldTy Try.prog 191 3 = some (27, 5) := by kernel_rfl
@[simp] theorem placeOf3_191 : placeOf Try.prog 191 3 = some (5, 5) := by kernel_rfl
@[simp] theorem sized_191 : sized Try.prog 191 = true := by kernel_rfl
@[simp] theorem loadG_191 {α : Type} (mk : List α → α) (cs : List α) (off : Nat) : loadG mk Try.prog 191 cs off = if off + 10 ≤ cs.length then some (mk ((cs.drop off).take 10)) else none := by kernel_rfl
@[simp] theorem szOf_194 : szOf Try.prog 194 = some (6) := by kernel_rfl
@[simp] theorem known_194 : known Try.prog 194 = true := by kernel_rfl
@[simp] theorem isString_194 : isString Try.prog 194 = false := by kernel_rfl
@[simp] theorem isSlice_194 : isSlice Try.prog 194 = false := by kernel_rfl
@[simp] theorem isIface_194 : isIface Try.prog 194 = some (false) := by kernel_rfl
@[simp] theorem concrete_194 : concrete Try.prog 194 = true := by kernel_rfl
@[simp] theorem bytesOf_194 : bytesOf Try.prog 194 = none := by kernel_rfl
@[simp] theorem zeroCellsOf_194 : zeroCellsOf Try.prog 194 = some [.d (.v (.string ⟨#[]⟩)), .d (.v (.int .i64 0)), .d (.v (.int .i64 0)), .d (.v (.string ⟨#[]⟩)), .fl [] 0, .fl [] 0] := by kernel_rfl
@[simp] theorem zeroS_194 : zeroS Try.prog 194 = some (.ag [.d (.v (.string ⟨#[]⟩)), .d (.v (.int .i64 0)), .d (.v (.int .i64 0)), .d (.v (.string ⟨#[]⟩)), .fl [] 0, .fl [] 0]) := by kernel_rfl
@[simp] theorem fieldOf0_194 : fieldOf Try.prog 194 0 = some 0 := by kernel_rfl
@[simp] theorem fieldTy0_194 : fieldTy Try.prog 194 0 = some (9, 0) := by kernel_rfl
@[simp] theorem placeOf0_194 : placeOf Try.prog 194 0 = some (0, 1) := by kernel_rfl
@[simp] theorem fieldOf1_194 : fieldOf Try.prog 194 1 = some 1 := by kernel_rfl
@[simp] theorem fieldTy1_194 : fieldTy Try.prog 194 1 = some (27, 1) := by kernel_rfl
@[simp] theorem placeOf1_194 : placeOf Try.prog 194 1 = some (1, 5) := by kernel_rfl
@[simp] theorem sized_194 : sized Try.prog 194 = true := by kernel_rfl
@[simp] theorem loadG_194 {α : Type} (mk : List α → α) (cs : List α) (off : Nat) : loadG mk Try.prog 194 cs off = if off + 6 ≤ cs.length then some (mk ((cs.drop off).take 6)) else none := by kernel_rfl
@[simp] theorem szOf_196 : szOf Try.prog 196 = some (6) := by kernel_rfl
@[simp] theorem known_196 : known Try.prog 196 = true := by kernel_rfl
@[simp] theorem isString_196 : isString Try.prog 196 = false := by kernel_rfl
@[simp] theorem isSlice_196 : isSlice Try.prog 196 = false := by kernel_rfl
@[simp] theorem isIface_196 : isIface Try.prog 196 = some (false) := by kernel_rfl
@[simp] theorem concrete_196 : concrete Try.prog 196 = true := by kernel_rfl
@[simp] theorem bytesOf_196 : bytesOf Try.prog 196 = none := by kernel_rfl
@[simp] theorem zeroCellsOf_196 : zeroCellsOf Try.prog 196 = some [.d (.v (.bool false)), .d (.v (.int .i64 0)), .d (.v (.int .i64 0)), .d (.v (.string ⟨#[]⟩)), .fl [] 0, .fl [] 0] := by kernel_rfl
@[simp] theorem zeroS_196 : zeroS Try.prog 196 = some (.ag [.d (.v (.bool false)), .d (.v (.int .i64 0)), .d (.v (.int .i64 0)), .d (.v (.string ⟨#[]⟩)), .fl [] 0, .fl [] 0]) := by kernel_rfl
@[simp] theorem fieldOf0_196 : fieldOf Try.prog 196 0 = some 0 := by kernel_rfl
@[simp] theorem fieldTy0_196 : fieldTy Try.prog 196 0 = some (4, 0) := by kernel_rfl
@[simp] theorem placeOf0_196 : placeOf Try.prog 196 0 = some (0, 1) := by kernel_rfl
@[simp] theorem fieldOf1_196 : fieldOf Try.prog 196 1 = some 1 := by kernel_rfl
@[simp] theorem fieldTy1_196 : fieldTy Try.prog 196 1 = some (27, 1) := by kernel_rfl
@[simp] theorem placeOf1_196 : placeOf Try.prog 196 1 = some (1, 5) := by kernel_rfl
@[simp] theorem sized_196 : sized Try.prog 196 = true := by kernel_rfl
@[simp] theorem loadG_196 {α : Type} (mk : List α → α) (cs : List α) (off : Nat) : loadG mk Try.prog 196 cs off = if off + 6 ≤ cs.length then some (mk ((cs.drop off).take 6)) else none := by kernel_rfl
@[simp] theorem szOf_210 : szOf Try.prog 210 = some (1) := by kernel_rfl
@[simp] theorem known_210 : known Try.prog 210 = true := by kernel_rfl
@[simp] theorem isString_210 : isString Try.prog 210 = false := by kernel_rfl
@[simp] theorem isSlice_210 : isSlice Try.prog 210 = false := by kernel_rfl
@[simp] theorem isIface_210 : isIface Try.prog 210 = some (false) := by kernel_rfl
@[simp] theorem concrete_210 : concrete Try.prog 210 = true := by kernel_rfl
@[simp] theorem bytesOf_210 : bytesOf Try.prog 210 = none := by kernel_rfl
@[simp] theorem zeroCellsOf_210 : zeroCellsOf Try.prog 210 = some [.d (.v (.pointer none))] := by kernel_rfl
@[simp] theorem zeroS_210 : zeroS Try.prog 210 = some (.d (.v (.pointer none))) := by kernel_rfl
@[simp] theorem nilEqN_210 : evalNil Try.prog .eql 210 (.d (.v (.pointer none))) (.pointer none) = some (.d (.v (.bool true))) := by kernel_rfl
@[simp] theorem nilNeN_210 : evalNil Try.prog .neq 210 (.d (.v (.pointer none))) (.pointer none) = some (.d (.v (.bool false))) := by kernel_rfl
@[simp] theorem nilEqO_210 (b off : Nat) : evalNil Try.prog .eql 210 (.op b off) (.pointer none) = some (.d (.v (.bool false))) := by kernel_rfl
@[simp] theorem nilNeO_210 (b off : Nat) : evalNil Try.prog .neq 210 (.op b off) (.pointer none) = some (.d (.v (.bool true))) := by kernel_rfl
@[simp] theorem nilEqP_210 (cs : List D) (off : Nat) : evalNil Try.prog .eql 210 (.d (.pp cs off)) (.pointer none) = some (.d (.v (.bool false))) := by kernel_rfl
@[simp] theorem nilNeP_210 (cs : List D) (off : Nat) : evalNil Try.prog .neq 210 (.d (.pp cs off)) (.pointer none) = some (.d (.v (.bool true))) := by kernel_rfl
@[simp] theorem loadG_210 {α : Type} (mk : List α → α) (cs : List α) (off : Nat) : loadG mk Try.prog 210 cs off = cs[off]? := by kernel_rfl
@[simp] theorem szOf_212 : szOf Try.prog 212 = some (3) := by kernel_rfl
@[simp] theorem known_212 : known Try.prog 212 = true := by kernel_rfl
@[simp] theorem isString_212 : isString Try.prog 212 = false := by kernel_rfl
@[simp] theorem isSlice_212 : isSlice Try.prog 212 = false := by kernel_rfl
@[simp] theorem isIface_212 : isIface Try.prog 212 = some (false) := by kernel_rfl
@[simp] theorem concrete_212 : concrete Try.prog 212 = true := by kernel_rfl
@[simp] theorem bytesOf_212 : bytesOf Try.prog 212 = none := by kernel_rfl
@[simp] theorem zeroCellsOf_212 : zeroCellsOf Try.prog 212 = some [.fl [] 0, .d (.v (.int .i64 0)), .d (.v (.bool false))] := by kernel_rfl
@[simp] theorem zeroS_212 : zeroS Try.prog 212 = some (.ag [.fl [] 0, .d (.v (.int .i64 0)), .d (.v (.bool false))]) := by kernel_rfl
@[simp] theorem fieldOf0_212 : fieldOf Try.prog 212 0 = some 0 := by kernel_rfl
@[simp] theorem fieldTy0_212 : fieldTy Try.prog 212 0 = some (25, 0) := by kernel_rfl
@[simp] theorem placeOf0_212 : placeOf Try.prog 212 0 = some (0, 1) := by kernel_rfl
@[simp] theorem fieldOf1_212 : fieldOf Try.prog 212 1 = some 1 := by kernel_rfl
@[simp] theorem fieldTy1_212 : fieldTy Try.prog 212 1 = some (3, 1) := by kernel_rfl
@[simp] theorem placeOf1_212 : placeOf Try.prog 212 1 = some (1, 1) := by kernel_rfl
@[simp] theorem fieldOf2_212 : fieldOf Try.prog 212 2 = some 2 := by kernel_rfl
@[simp] theorem fieldTy2_212 : fieldTy Try.prog 212 2 = some (4, 2) := by kernel_rfl
@[simp] theorem placeOf2_212 : placeOf Try.prog 212 2 = some (2, 1) := by kernel_rfl
@[simp] theorem sized_212 : sized Try.prog 212 = true := by kernel_rfl
@[simp] theorem loadG_212 {α : Type} (mk : List α → α) (cs : List α) (off : Nat) : loadG mk Try.prog 212 cs off = if off + 3 ≤ cs.length then some (mk ((cs.drop off).take 3)) else none := by kernel_rfl
end Go.Proofs.Ytghbkljdpikpdaa
