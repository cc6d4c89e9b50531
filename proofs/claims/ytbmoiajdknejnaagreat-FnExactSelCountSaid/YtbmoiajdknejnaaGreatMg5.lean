/- ShFacts and what follows it, one behind another. -/
import Derived.Test.YtbmoiajdknejnaaGreatMg3
import Derived.Test.YtbmoiajdknejnaaGreatProg
import Derived.Test.YtbmoiajdknejnaaGreatMg4
/- The facts of the program's types, as the shadow asks for them. -/
set_option linter.unusedVariables false
set_option linter.unusedSimpArgs false
set_option maxRecDepth 100000
namespace Go.Proofs.YtbmoiajdknejnaaGreat
open Go.Sh
@[simp] theorem szOf_3 : szOf Tryz.prog 3 = some (1) := by kernel_rfl
@[simp] theorem loadG_3 {α : Type} (mk : List α → α) (cs : List α) (off : Nat) : loadG mk Tryz.prog 3 cs off = cs[off]? := by kernel_rfl
@[simp] theorem szOf_4 : szOf Tryz.prog 4 = some (1) := by kernel_rfl
@[simp] theorem boolNe_4 (a b : Bool) : binS Tryz.prog .neq 4 (.bool a) (.bool b) = some (.bool (!(a == b))) := by kernel_rfl
@[simp] theorem loadG_4 {α : Type} (mk : List α → α) (cs : List α) (off : Nat) : loadG mk Tryz.prog 4 cs off = cs[off]? := by kernel_rfl
@[simp] theorem szOf_9 : szOf Tryz.prog 9 = some (1) := by kernel_rfl
@[simp] theorem isString_9 : isString Tryz.prog 9 = true := by kernel_rfl
@[simp] theorem loadG_9 {α : Type} (mk : List α → α) (cs : List α) (off : Nat) : loadG mk Tryz.prog 9 cs off = cs[off]? := by kernel_rfl
@[simp] theorem szOf_27 : szOf Tryz.prog 27 = some (1) := by kernel_rfl
@[simp] theorem isSlice_27 : isSlice Tryz.prog 27 = true := by kernel_rfl
@[simp] theorem elemOf_27 : Sh.elemOf Tryz.prog 27 = some (9, 1) := by kernel_rfl
@[simp] theorem appOf_27 : appOf Tryz.prog 27 = some (9, 1, 16) := by kernel_rfl
@[simp] theorem makeOf_27 : makeOf Tryz.prog 27 = some ([.d (.v (.string ⟨#[]⟩))], 1, 16) := by kernel_rfl
@[simp] theorem zerosOf_27 : zerosOf Tryz.prog 27 = some ([.v (.string ⟨#[]⟩)], 1) := by kernel_rfl
@[simp] theorem loadG_27 {α : Type} (mk : List α → α) (cs : List α) (off : Nat) : loadG mk Tryz.prog 27 cs off = cs[off]? := by kernel_rfl
@[simp] theorem szOf_31 : szOf Tryz.prog 31 = some (1) := by kernel_rfl
@[simp] theorem isSlice_31 : isSlice Tryz.prog 31 = true := by kernel_rfl
@[simp] theorem elemOf_31 : Sh.elemOf Tryz.prog 31 = some (33, 3) := by kernel_rfl
@[simp] theorem makeOf_31 : makeOf Tryz.prog 31 = some ([.d (.v (.string ⟨#[]⟩)), .fl [] 0, .d (.v (.bool false))], 3, 48) := by kernel_rfl
@[simp] theorem loadG_31 {α : Type} (mk : List α → α) (cs : List α) (off : Nat) : loadG mk Tryz.prog 31 cs off = cs[off]? := by kernel_rfl
@[simp] theorem szOf_33 : szOf Tryz.prog 33 = some (3) := by kernel_rfl
@[simp] theorem zeroCellsOf_33 : zeroCellsOf Tryz.prog 33 = some [.d (.v (.string ⟨#[]⟩)), .fl [] 0, .d (.v (.bool false))] := by kernel_rfl
@[simp] theorem fieldOf0_33 : fieldOf Tryz.prog 33 0 = some 0 := by kernel_rfl
@[simp] theorem fieldOf1_33 : fieldOf Tryz.prog 33 1 = some 1 := by kernel_rfl
@[simp] theorem fieldOf2_33 : fieldOf Tryz.prog 33 2 = some 2 := by kernel_rfl
@[simp] theorem loadG_33 {α : Type} (mk : List α → α) (cs : List α) (off : Nat) : loadG mk Tryz.prog 33 cs off = if off + 3 ≤ cs.length then some (mk ((cs.drop off).take 3)) else none := by kernel_rfl
@[simp] theorem szOf_35 : szOf Tryz.prog 35 = some (1) := by kernel_rfl
@[simp] theorem isSlice_35 : isSlice Tryz.prog 35 = true := by kernel_rfl
@[simp] theorem elemOf_35 : Sh.elemOf Tryz.prog 35 = some (37, 5) := by kernel_rfl
@[simp] theorem makeOf_35 : makeOf Tryz.prog 35 = some ([.d (.v (.int .i64 0)), .d (.v (.int .i64 0)), .d (.v (.string ⟨#[]⟩)), .fl [] 0, .fl [] 0], 5, 80) := by kernel_rfl
@[simp] theorem loadG_35 {α : Type} (mk : List α → α) (cs : List α) (off : Nat) : loadG mk Tryz.prog 35 cs off = cs[off]? := by kernel_rfl
@[simp] theorem szOf_37 : szOf Tryz.prog 37 = some (5) := by kernel_rfl
@[simp] theorem zeroCellsOf_37 : zeroCellsOf Tryz.prog 37 = some [.d (.v (.int .i64 0)), .d (.v (.int .i64 0)), .d (.v (.string ⟨#[]⟩)), .fl [] 0, .fl [] 0] := by kernel_rfl
@[simp] theorem fieldOf0_37 : fieldOf Tryz.prog 37 0 = some 0 := by kernel_rfl
@[simp] theorem fieldOf1_37 : fieldOf Tryz.prog 37 1 = some 1 := by kernel_rfl
@[simp] theorem fieldOf2_37 : fieldOf Tryz.prog 37 2 = some 2 := by kernel_rfl
@[simp] theorem fieldOf3_37 : fieldOf Tryz.prog 37 3 = some 3 := by kernel_rfl
@[simp] theorem fieldOf4_37 : fieldOf Tryz.prog 37 4 = some 4 := by kernel_rfl
@[simp] theorem sized_37 : sized Tryz.prog 37 = true := by kernel_rfl
@[simp] theorem loadG_37 {α : Type} (mk : List α → α) (cs : List α) (off : Nat) : loadG mk Tryz.prog 37 cs off = if off + 5 ≤ cs.length then some (mk ((cs.drop off).take 5)) else none := by kernel_rfl
@[simp] theorem isSlice_54 : isSlice Tryz.prog 54 = true := by kernel_rfl
@[simp] theorem elemOf_54 : Sh.elemOf Tryz.prog 54 = some (74, 4) := by kernel_rfl
@[simp] theorem loadG_54 {α : Type} (mk : List α → α) (cs : List α) (off : Nat) : loadG mk Tryz.prog 54 cs off = cs[off]? := by kernel_rfl
@[simp] theorem isSlice_55 : isSlice Tryz.prog 55 = true := by kernel_rfl
@[simp] theorem elemOf_55 : Sh.elemOf Tryz.prog 55 = some (232, 3) := by kernel_rfl
@[simp] theorem loadG_55 {α : Type} (mk : List α → α) (cs : List α) (off : Nat) : loadG mk Tryz.prog 55 cs off = cs[off]? := by kernel_rfl
@[simp] theorem fieldOf0_57 : fieldOf Tryz.prog 57 0 = some 0 := by kernel_rfl
@[simp] theorem fieldOf1_57 : fieldOf Tryz.prog 57 1 = some 1 := by kernel_rfl
@[simp] theorem loadG_57 {α : Type} (mk : List α → α) (cs : List α) (off : Nat) : loadG mk Tryz.prog 57 cs off = if off + 2 ≤ cs.length then some (mk ((cs.drop off).take 2)) else none := by kernel_rfl
@[simp] theorem szOf_60 : szOf Tryz.prog 60 = some (1) := by kernel_rfl
@[simp] theorem isSlice_60 : isSlice Tryz.prog 60 = true := by kernel_rfl
@[simp] theorem elemOf_60 : Sh.elemOf Tryz.prog 60 = some (85, 4) := by kernel_rfl
@[simp] theorem makeOf_60 : makeOf Tryz.prog 60 = some ([.d (.v (.bool false)), .d (.v (.string ⟨#[]⟩)), .fl [] 0, .fl [] 0], 4, 72) := by kernel_rfl
@[simp] theorem loadG_60 {α : Type} (mk : List α → α) (cs : List α) (off : Nat) : loadG mk Tryz.prog 60 cs off = cs[off]? := by kernel_rfl
@[simp] theorem szOf_61 : szOf Tryz.prog 61 = some (1) := by kernel_rfl
@[simp] theorem isSlice_61 : isSlice Tryz.prog 61 = true := by kernel_rfl
@[simp] theorem elemOf_61 : Sh.elemOf Tryz.prog 61 = some (235, 3) := by kernel_rfl
@[simp] theorem makeOf_61 : makeOf Tryz.prog 61 = some ([.d (.v (.string ⟨#[]⟩)), .d (.v (.string ⟨#[]⟩)), .fl [] 0], 3, 56) := by kernel_rfl
@[simp] theorem loadG_61 {α : Type} (mk : List α → α) (cs : List α) (off : Nat) : loadG mk Tryz.prog 61 cs off = cs[off]? := by kernel_rfl
@[simp] theorem szOf_63 : szOf Tryz.prog 63 = some (2) := by kernel_rfl
@[simp] theorem zeroCellsOf_63 : zeroCellsOf Tryz.prog 63 = some [.fl [] 0, .fl [] 0] := by kernel_rfl
@[simp] theorem fieldOf0_63 : fieldOf Tryz.prog 63 0 = some 0 := by kernel_rfl
@[simp] theorem fieldOf1_63 : fieldOf Tryz.prog 63 1 = some 1 := by kernel_rfl
@[simp] theorem loadG_63 {α : Type} (mk : List α → α) (cs : List α) (off : Nat) : loadG mk Tryz.prog 63 cs off = if off + 2 ≤ cs.length then some (mk ((cs.drop off).take 2)) else none := by kernel_rfl
@[simp] theorem isSlice_71 : isSlice Tryz.prog 71 = true := by kernel_rfl
@[simp] theorem elemOf_71 : Sh.elemOf Tryz.prog 71 = some (259, 10) := by kernel_rfl
@[simp] theorem loadG_71 {α : Type} (mk : List α → α) (cs : List α) (off : Nat) : loadG mk Tryz.prog 71 cs off = cs[off]? := by kernel_rfl
@[simp] theorem isSlice_72 : isSlice Tryz.prog 72 = true := by kernel_rfl
@[simp] theorem elemOf_72 : Sh.elemOf Tryz.prog 72 = some (264, 6) := by kernel_rfl
@[simp] theorem loadG_72 {α : Type} (mk : List α → α) (cs : List α) (off : Nat) : loadG mk Tryz.prog 72 cs off = cs[off]? := by kernel_rfl
@[simp] theorem fieldOf0_74 : fieldOf Tryz.prog 74 0 = some 0 := by kernel_rfl
@[simp] theorem fieldOf1_74 : fieldOf Tryz.prog 74 1 = some 1 := by kernel_rfl
@[simp] theorem fieldOf2_74 : fieldOf Tryz.prog 74 2 = some 2 := by kernel_rfl
@[simp] theorem fieldOf3_74 : fieldOf Tryz.prog 74 3 = some 3 := by kernel_rfl
@[simp] theorem loadG_74 {α : Type} (mk : List α → α) (cs : List α) (off : Nat) : loadG mk Tryz.prog 74 cs off = if off + 4 ≤ cs.length then some (mk ((cs.drop off).take 4)) else none := by kernel_rfl
@[simp] theorem isSlice_75 : isSlice Tryz.prog 75 = true := by kernel_rfl
@[simp] theorem elemOf_75 : Sh.elemOf Tryz.prog 75 = some (77, 5) := by kernel_rfl
@[simp] theorem loadG_75 {α : Type} (mk : List α → α) (cs : List α) (off : Nat) : loadG mk Tryz.prog 75 cs off = cs[off]? := by kernel_rfl
@[simp] theorem fieldOf0_77 : fieldOf Tryz.prog 77 0 = some 0 := by kernel_rfl
@[simp] theorem fieldOf1_77 : fieldOf Tryz.prog 77 1 = some 1 := by kernel_rfl
@[simp] theorem fieldOf2_77 : fieldOf Tryz.prog 77 2 = some 2 := by kernel_rfl
@[simp] theorem fieldOf3_77 : fieldOf Tryz.prog 77 3 = some 3 := by kernel_rfl
@[simp] theorem fieldOf4_77 : fieldOf Tryz.prog 77 4 = some 4 := by kernel_rfl
@[simp] theorem loadG_77 {α : Type} (mk : List α → α) (cs : List α) (off : Nat) : loadG mk Tryz.prog 77 cs off = if off + 5 ≤ cs.length then some (mk ((cs.drop off).take 5)) else none := by kernel_rfl
@[simp] theorem szOf_82 : szOf Tryz.prog 82 = some (1) := by kernel_rfl
@[simp] theorem isSlice_82 : isSlice Tryz.prog 82 = true := by kernel_rfl
@[simp] theorem elemOf_82 : Sh.elemOf Tryz.prog 82 = some (174, 10) := by kernel_rfl
@[simp] theorem makeOf_82 : makeOf Tryz.prog 82 = some ([.d (.v (.string ⟨#[]⟩)), .d (.v (.string ⟨#[]⟩)), .fl [] 0, .d (.v (.bool false)), .d (.v (.bool false)), .d (.v (.int .i64 0)), .d (.v (.int .i64 0)), .d (.v (.string ⟨#[]⟩)), .fl [] 0, .fl [] 0], 10, 152) := by kernel_rfl
@[simp] theorem loadG_82 {α : Type} (mk : List α → α) (cs : List α) (off : Nat) : loadG mk Tryz.prog 82 cs off = cs[off]? := by kernel_rfl
@[simp] theorem szOf_83 : szOf Tryz.prog 83 = some (1) := by kernel_rfl
@[simp] theorem isSlice_83 : isSlice Tryz.prog 83 = true := by kernel_rfl
@[simp] theorem elemOf_83 : Sh.elemOf Tryz.prog 83 = some (239, 6) := by kernel_rfl
@[simp] theorem makeOf_83 : makeOf Tryz.prog 83 = some ([.d (.v (.int .i64 0)), .d (.v (.string ⟨#[]⟩)), .d (.v (.string ⟨#[]⟩)), .fl [] 0, .fl [] 0, .fl [] 0], 6, 112) := by kernel_rfl
@[simp] theorem loadG_83 {α : Type} (mk : List α → α) (cs : List α) (off : Nat) : loadG mk Tryz.prog 83 cs off = cs[off]? := by kernel_rfl
@[simp] theorem szOf_85 : szOf Tryz.prog 85 = some (4) := by kernel_rfl
@[simp] theorem zeroCellsOf_85 : zeroCellsOf Tryz.prog 85 = some [.d (.v (.bool false)), .d (.v (.string ⟨#[]⟩)), .fl [] 0, .fl [] 0] := by kernel_rfl
@[simp] theorem fieldOf0_85 : fieldOf Tryz.prog 85 0 = some 0 := by kernel_rfl
@[simp] theorem fieldOf1_85 : fieldOf Tryz.prog 85 1 = some 1 := by kernel_rfl
@[simp] theorem fieldOf2_85 : fieldOf Tryz.prog 85 2 = some 2 := by kernel_rfl
@[simp] theorem fieldOf3_85 : fieldOf Tryz.prog 85 3 = some 3 := by kernel_rfl
@[simp] theorem sized_85 : sized Tryz.prog 85 = true := by kernel_rfl
@[simp] theorem loadG_85 {α : Type} (mk : List α → α) (cs : List α) (off : Nat) : loadG mk Tryz.prog 85 cs off = if off + 4 ≤ cs.length then some (mk ((cs.drop off).take 4)) else none := by kernel_rfl
@[simp] theorem mapOf_153 : Sh.mapOf Tryz.prog 153 = some 3 := by kernel_rfl
@[simp] theorem loadG_153 {α : Type} (mk : List α → α) (cs : List α) (off : Nat) : loadG mk Tryz.prog 153 cs off = cs[off]? := by kernel_rfl
@[simp] theorem mapOf_154 : Sh.mapOf Tryz.prog 154 = some 161 := by kernel_rfl
@[simp] theorem loadG_154 {α : Type} (mk : List α → α) (cs : List α) (off : Nat) : loadG mk Tryz.prog 154 cs off = cs[off]? := by kernel_rfl
@[simp] theorem szOf_156 : szOf Tryz.prog 156 = some (4) := by kernel_rfl
@[simp] theorem zeroCellsOf_156 : zeroCellsOf Tryz.prog 156 = some [.fl [] 0, .fl [] 0, .d (.v (.map none)), .d (.v (.map none))] := by kernel_rfl
@[simp] theorem fieldOf0_156 : fieldOf Tryz.prog 156 0 = some 0 := by kernel_rfl
@[simp] theorem placeOf0_156 : placeOf Tryz.prog 156 0 = some (0, 2) := by kernel_rfl
@[simp] theorem placeOf1_156 : placeOf Tryz.prog 156 1 = some (2, 1) := by kernel_rfl
@[simp] theorem fieldOf2_156 : fieldOf Tryz.prog 156 2 = some 3 := by kernel_rfl
@[simp] theorem placeOf2_156 : placeOf Tryz.prog 156 2 = some (3, 1) := by kernel_rfl
@[simp] theorem sized_156 : sized Tryz.prog 156 = true := by kernel_rfl
@[simp] theorem loadG_156 {α : Type} (mk : List α → α) (cs : List α) (off : Nat) : loadG mk Tryz.prog 156 cs off = if off + 4 ≤ cs.length then some (mk ((cs.drop off).take 4)) else none := by kernel_rfl
@[simp] theorem szOf_174 : szOf Tryz.prog 174 = some (10) := by kernel_rfl
@[simp] theorem zeroCellsOf_174 : zeroCellsOf Tryz.prog 174 = some [.d (.v (.string ⟨#[]⟩)), .d (.v (.string ⟨#[]⟩)), .fl [] 0, .d (.v (.bool false)), .d (.v (.bool false)), .d (.v (.int .i64 0)), .d (.v (.int .i64 0)), .d (.v (.string ⟨#[]⟩)), .fl [] 0, .fl [] 0] := by kernel_rfl
@[simp] theorem fieldOf0_174 : fieldOf Tryz.prog 174 0 = some 0 := by kernel_rfl
@[simp] theorem fieldOf1_174 : fieldOf Tryz.prog 174 1 = some 1 := by kernel_rfl
@[simp] theorem fieldOf2_174 : fieldOf Tryz.prog 174 2 = some 4 := by kernel_rfl
@[simp] theorem fieldOf3_174 : fieldOf Tryz.prog 174 3 = some 5 := by kernel_rfl
@[simp] theorem loadG_174 {α : Type} (mk : List α → α) (cs : List α) (off : Nat) : loadG mk Tryz.prog 174 cs off = if off + 10 ≤ cs.length then some (mk ((cs.drop off).take 10)) else none := by kernel_rfl
@[simp] theorem nilEqN_206 : evalNil Tryz.prog .eql 206 (.d (.v .nilIface)) .nilIface = some (.d (.v (.bool true))) := by kernel_rfl
@[simp] theorem nilEqI_206 (t : TypeId) (x : D) : evalNil Tryz.prog .eql 206 (.d (.ifc t x)) .nilIface = some (.d (.v (.bool false))) := by kernel_rfl
@[simp] theorem isIface_208 : isIface Tryz.prog 208 = some (false) := by kernel_rfl
@[simp] theorem concrete_208 : concrete Tryz.prog 208 = true := by kernel_rfl
@[simp] theorem zeroS_208 : zeroS Tryz.prog 208 = some (.d (.v (.string ⟨#[]⟩))) := by kernel_rfl
@[simp] theorem isIface_209 : isIface Tryz.prog 209 = some (false) := by kernel_rfl
@[simp] theorem concrete_209 : concrete Tryz.prog 209 = true := by kernel_rfl
@[simp] theorem zeroS_209 : zeroS Tryz.prog 209 = some (.d (.v (.string ⟨#[]⟩))) := by kernel_rfl
@[simp] theorem fieldOf0_232 : fieldOf Tryz.prog 232 0 = some 0 := by kernel_rfl
@[simp] theorem fieldOf1_232 : fieldOf Tryz.prog 232 1 = some 1 := by kernel_rfl
@[simp] theorem fieldOf2_232 : fieldOf Tryz.prog 232 2 = some 2 := by kernel_rfl
@[simp] theorem loadG_232 {α : Type} (mk : List α → α) (cs : List α) (off : Nat) : loadG mk Tryz.prog 232 cs off = if off + 3 ≤ cs.length then some (mk ((cs.drop off).take 3)) else none := by kernel_rfl
@[simp] theorem szOf_235 : szOf Tryz.prog 235 = some (3) := by kernel_rfl
@[simp] theorem zeroCellsOf_235 : zeroCellsOf Tryz.prog 235 = some [.d (.v (.string ⟨#[]⟩)), .d (.v (.string ⟨#[]⟩)), .fl [] 0] := by kernel_rfl
@[simp] theorem fieldOf0_235 : fieldOf Tryz.prog 235 0 = some 0 := by kernel_rfl
@[simp] theorem fieldOf1_235 : fieldOf Tryz.prog 235 1 = some 1 := by kernel_rfl
@[simp] theorem fieldOf2_235 : fieldOf Tryz.prog 235 2 = some 2 := by kernel_rfl
@[simp] theorem sized_235 : sized Tryz.prog 235 = true := by kernel_rfl
@[simp] theorem loadG_235 {α : Type} (mk : List α → α) (cs : List α) (off : Nat) : loadG mk Tryz.prog 235 cs off = if off + 3 ≤ cs.length then some (mk ((cs.drop off).take 3)) else none := by kernel_rfl
@[simp] theorem szOf_236 : szOf Tryz.prog 236 = some (1) := by kernel_rfl
@[simp] theorem isSlice_236 : isSlice Tryz.prog 236 = true := by kernel_rfl
@[simp] theorem elemOf_236 : Sh.elemOf Tryz.prog 236 = some (329, 6) := by kernel_rfl
@[simp] theorem makeOf_236 : makeOf Tryz.prog 236 = some ([.d (.v (.string ⟨#[]⟩)), .d (.v (.int .i64 0)), .d (.v (.int .i64 0)), .d (.v (.string ⟨#[]⟩)), .fl [] 0, .fl [] 0], 6, 96) := by kernel_rfl
@[simp] theorem loadG_236 {α : Type} (mk : List α → α) (cs : List α) (off : Nat) : loadG mk Tryz.prog 236 cs off = cs[off]? := by kernel_rfl
@[simp] theorem szOf_237 : szOf Tryz.prog 237 = some (1) := by kernel_rfl
@[simp] theorem isSlice_237 : isSlice Tryz.prog 237 = true := by kernel_rfl
@[simp] theorem elemOf_237 : Sh.elemOf Tryz.prog 237 = some (331, 6) := by kernel_rfl
@[simp] theorem makeOf_237 : makeOf Tryz.prog 237 = some ([.d (.v (.bool false)), .d (.v (.int .i64 0)), .d (.v (.int .i64 0)), .d (.v (.string ⟨#[]⟩)), .fl [] 0, .fl [] 0], 6, 88) := by kernel_rfl
@[simp] theorem loadG_237 {α : Type} (mk : List α → α) (cs : List α) (off : Nat) : loadG mk Tryz.prog 237 cs off = cs[off]? := by kernel_rfl
@[simp] theorem szOf_239 : szOf Tryz.prog 239 = some (6) := by kernel_rfl
@[simp] theorem zeroCellsOf_239 : zeroCellsOf Tryz.prog 239 = some [.d (.v (.int .i64 0)), .d (.v (.string ⟨#[]⟩)), .d (.v (.string ⟨#[]⟩)), .fl [] 0, .fl [] 0, .fl [] 0] := by kernel_rfl
@[simp] theorem fieldOf0_239 : fieldOf Tryz.prog 239 0 = some 0 := by kernel_rfl
@[simp] theorem fieldOf1_239 : fieldOf Tryz.prog 239 1 = some 1 := by kernel_rfl
@[simp] theorem fieldOf2_239 : fieldOf Tryz.prog 239 2 = some 2 := by kernel_rfl
@[simp] theorem fieldOf3_239 : fieldOf Tryz.prog 239 3 = some 3 := by kernel_rfl
@[simp] theorem fieldOf4_239 : fieldOf Tryz.prog 239 4 = some 4 := by kernel_rfl
@[simp] theorem fieldOf5_239 : fieldOf Tryz.prog 239 5 = some 5 := by kernel_rfl
@[simp] theorem loadG_239 {α : Type} (mk : List α → α) (cs : List α) (off : Nat) : loadG mk Tryz.prog 239 cs off = if off + 6 ≤ cs.length then some (mk ((cs.drop off).take 6)) else none := by kernel_rfl
@[simp] theorem szOf_242 : szOf Tryz.prog 242 = some (2) := by kernel_rfl
@[simp] theorem zeroCellsOf_242 : zeroCellsOf Tryz.prog 242 = some [.d (.v (.map none)), .d (.v (.map none))] := by kernel_rfl
@[simp] theorem fieldOf0_242 : fieldOf Tryz.prog 242 0 = some 0 := by kernel_rfl
@[simp] theorem fieldTy0_242 : fieldTy Tryz.prog 242 0 = some (153, 0) := by kernel_rfl
@[simp] theorem placeOf0_242 : placeOf Tryz.prog 242 0 = some (0, 1) := by kernel_rfl
@[simp] theorem fieldOf1_242 : fieldOf Tryz.prog 242 1 = some 1 := by kernel_rfl
@[simp] theorem placeOf1_242 : placeOf Tryz.prog 242 1 = some (1, 1) := by kernel_rfl
@[simp] theorem sized_242 : sized Tryz.prog 242 = true := by kernel_rfl
@[simp] theorem loadG_242 {α : Type} (mk : List α → α) (cs : List α) (off : Nat) : loadG mk Tryz.prog 242 cs off = if off + 2 ≤ cs.length then some (mk ((cs.drop off).take 2)) else none := by kernel_rfl
@[simp] theorem isSlice_255 : isSlice Tryz.prog 255 = true := by kernel_rfl
@[simp] theorem elemOf_255 : Sh.elemOf Tryz.prog 255 = some (257, 3) := by kernel_rfl
@[simp] theorem loadG_255 {α : Type} (mk : List α → α) (cs : List α) (off : Nat) : loadG mk Tryz.prog 255 cs off = cs[off]? := by kernel_rfl
@[simp] theorem fieldOf0_257 : fieldOf Tryz.prog 257 0 = some 0 := by kernel_rfl
@[simp] theorem fieldOf1_257 : fieldOf Tryz.prog 257 1 = some 1 := by kernel_rfl
@[simp] theorem fieldOf2_257 : fieldOf Tryz.prog 257 2 = some 2 := by kernel_rfl
@[simp] theorem loadG_257 {α : Type} (mk : List α → α) (cs : List α) (off : Nat) : loadG mk Tryz.prog 257 cs off = if off + 3 ≤ cs.length then some (mk ((cs.drop off).take 3)) else none := by kernel_rfl
@[simp] theorem fieldOf0_259 : fieldOf Tryz.prog 259 0 = some 0 := by kernel_rfl
@[simp] theorem fieldOf1_259 : fieldOf Tryz.prog 259 1 = some 1 := by kernel_rfl
@[simp] theorem fieldOf2_259 : fieldOf Tryz.prog 259 2 = some 4 := by kernel_rfl
@[simp] theorem fieldOf3_259 : fieldOf Tryz.prog 259 3 = some 5 := by kernel_rfl
@[simp] theorem loadG_259 {α : Type} (mk : List α → α) (cs : List α) (off : Nat) : loadG mk Tryz.prog 259 cs off = if off + 10 ≤ cs.length then some (mk ((cs.drop off).take 10)) else none := by kernel_rfl
@[simp] theorem isSlice_261 : isSlice Tryz.prog 261 = true := by kernel_rfl
@[simp] theorem elemOf_261 : Sh.elemOf Tryz.prog 261 = some (355, 6) := by kernel_rfl
@[simp] theorem loadG_261 {α : Type} (mk : List α → α) (cs : List α) (off : Nat) : loadG mk Tryz.prog 261 cs off = cs[off]? := by kernel_rfl
@[simp] theorem isSlice_262 : isSlice Tryz.prog 262 = true := by kernel_rfl
@[simp] theorem elemOf_262 : Sh.elemOf Tryz.prog 262 = some (358, 6) := by kernel_rfl
@[simp] theorem loadG_262 {α : Type} (mk : List α → α) (cs : List α) (off : Nat) : loadG mk Tryz.prog 262 cs off = cs[off]? := by kernel_rfl
@[simp] theorem fieldOf0_264 : fieldOf Tryz.prog 264 0 = some 0 := by kernel_rfl
@[simp] theorem fieldOf1_264 : fieldOf Tryz.prog 264 1 = some 1 := by kernel_rfl
@[simp] theorem fieldOf2_264 : fieldOf Tryz.prog 264 2 = some 2 := by kernel_rfl
@[simp] theorem fieldOf3_264 : fieldOf Tryz.prog 264 3 = some 3 := by kernel_rfl
@[simp] theorem fieldOf4_264 : fieldOf Tryz.prog 264 4 = some 4 := by kernel_rfl
@[simp] theorem fieldOf5_264 : fieldOf Tryz.prog 264 5 = some 5 := by kernel_rfl
@[simp] theorem loadG_264 {α : Type} (mk : List α → α) (cs : List α) (off : Nat) : loadG mk Tryz.prog 264 cs off = if off + 6 ≤ cs.length then some (mk ((cs.drop off).take 6)) else none := by kernel_rfl
@[simp] theorem isIface_281 : isIface Tryz.prog 281 = some (false) := by kernel_rfl
@[simp] theorem zeroCellsOf_281 : zeroCellsOf Tryz.prog 281 = some [] := by kernel_rfl
@[simp] theorem sized_281 : sized Tryz.prog 281 = true := by kernel_rfl
@[simp] theorem isIface_282 : isIface Tryz.prog 282 = some (false) := by kernel_rfl
@[simp] theorem isIface_283 : isIface Tryz.prog 283 = some (false) := by kernel_rfl
@[simp] theorem isIface_284 : isIface Tryz.prog 284 = some (false) := by kernel_rfl
@[simp] theorem isIface_285 : isIface Tryz.prog 285 = some (false) := by kernel_rfl
@[simp] theorem isIface_287 : isIface Tryz.prog 287 = some (false) := by kernel_rfl
@[simp] theorem zeroCellsOf_287 : zeroCellsOf Tryz.prog 287 = some [.fl [] 0, .fl [] 0] := by kernel_rfl
@[simp] theorem placeOf0_287 : placeOf Tryz.prog 287 0 = some (0, 1) := by kernel_rfl
@[simp] theorem fieldOf1_287 : fieldOf Tryz.prog 287 1 = some 1 := by kernel_rfl
@[simp] theorem placeOf1_287 : placeOf Tryz.prog 287 1 = some (1, 1) := by kernel_rfl
@[simp] theorem sized_287 : sized Tryz.prog 287 = true := by kernel_rfl
@[simp] theorem szOf_329 : szOf Tryz.prog 329 = some (6) := by kernel_rfl
@[simp] theorem zeroCellsOf_329 : zeroCellsOf Tryz.prog 329 = some [.d (.v (.string ⟨#[]⟩)), .d (.v (.int .i64 0)), .d (.v (.int .i64 0)), .d (.v (.string ⟨#[]⟩)), .fl [] 0, .fl [] 0] := by kernel_rfl
@[simp] theorem fieldOf0_329 : fieldOf Tryz.prog 329 0 = some 0 := by kernel_rfl
@[simp] theorem fieldOf1_329 : fieldOf Tryz.prog 329 1 = some 1 := by kernel_rfl
@[simp] theorem loadG_329 {α : Type} (mk : List α → α) (cs : List α) (off : Nat) : loadG mk Tryz.prog 329 cs off = if off + 6 ≤ cs.length then some (mk ((cs.drop off).take 6)) else none := by kernel_rfl
@[simp] theorem szOf_331 : szOf Tryz.prog 331 = some (6) := by kernel_rfl
@[simp] theorem zeroCellsOf_331 : zeroCellsOf Tryz.prog 331 = some [.d (.v (.bool false)), .d (.v (.int .i64 0)), .d (.v (.int .i64 0)), .d (.v (.string ⟨#[]⟩)), .fl [] 0, .fl [] 0] := by kernel_rfl
@[simp] theorem fieldOf0_331 : fieldOf Tryz.prog 331 0 = some 0 := by kernel_rfl
@[simp] theorem fieldOf1_331 : fieldOf Tryz.prog 331 1 = some 1 := by kernel_rfl
@[simp] theorem loadG_331 {α : Type} (mk : List α → α) (cs : List α) (off : Nat) : loadG mk Tryz.prog 331 cs off = if off + 6 ≤ cs.length then some (mk ((cs.drop off).take 6)) else none := by kernel_rfl
@[simp] theorem fieldOf0_355 : fieldOf Tryz.prog 355 0 = some 0 := by kernel_rfl
@[simp] theorem fieldOf1_355 : fieldOf Tryz.prog 355 1 = some 1 := by kernel_rfl
@[simp] theorem loadG_355 {α : Type} (mk : List α → α) (cs : List α) (off : Nat) : loadG mk Tryz.prog 355 cs off = if off + 6 ≤ cs.length then some (mk ((cs.drop off).take 6)) else none := by kernel_rfl
@[simp] theorem fieldOf0_358 : fieldOf Tryz.prog 358 0 = some 0 := by kernel_rfl
@[simp] theorem fieldOf1_358 : fieldOf Tryz.prog 358 1 = some 1 := by kernel_rfl
@[simp] theorem loadG_358 {α : Type} (mk : List α → α) (cs : List α) (off : Nat) : loadG mk Tryz.prog 358 cs off = if off + 6 ≤ cs.length then some (mk ((cs.drop off).take 6)) else none := by kernel_rfl
@[simp] theorem szOf_364 : szOf Tryz.prog 364 = some (10) := by kernel_rfl
@[simp] theorem zeroCellsOf_364 : zeroCellsOf Tryz.prog 364 = some [.d (.v (.int .i64 0)), .d (.v (.int .i64 0)), .d (.v (.string ⟨#[]⟩)), .fl [] 0, .fl [] 0, .d (.v (.int .i64 0)), .d (.v (.int .i64 0)), .d (.v (.string ⟨#[]⟩)), .fl [] 0, .fl [] 0] := by kernel_rfl
@[simp] theorem fieldOf0_364 : fieldOf Tryz.prog 364 0 = some 0 := by kernel_rfl
@[simp] theorem placeOf0_364 : placeOf Tryz.prog 364 0 = some (0, 5) := by kernel_rfl
@[simp] theorem fieldOf1_364 : fieldOf Tryz.prog 364 1 = some 5 := by kernel_rfl
@[simp] theorem placeOf1_364 : placeOf Tryz.prog 364 1 = some (5, 5) := by kernel_rfl
@[simp] theorem sized_364 : sized Tryz.prog 364 = true := by kernel_rfl
@[simp] theorem loadG_364 {α : Type} (mk : List α → α) (cs : List α) (off : Nat) : loadG mk Tryz.prog 364 cs off = if off + 10 ≤ cs.length then some (mk ((cs.drop off).take 10)) else none := by kernel_rfl
@[simp] theorem isSlice_365 : isSlice Tryz.prog 365 = true := by kernel_rfl
@[simp] theorem elemOf_365 : Sh.elemOf Tryz.prog 365 = some (364, 10) := by kernel_rfl
@[simp] theorem zerosOf_365 : zerosOf Tryz.prog 365 = some ([.v (.int .i64 0), .v (.int .i64 0), .v (.string ⟨#[]⟩), .ps [] 0, .ps [] 0, .v (.int .i64 0), .v (.int .i64 0), .v (.string ⟨#[]⟩), .ps [] 0, .ps [] 0], 10) := by kernel_rfl
end Go.Proofs.YtbmoiajdknejnaaGreat

/- What all that follows uses: data of small kinds, rows, what a call leaves. -/
set_option linter.unusedVariables false
set_option linter.unusedSimpArgs false
set_option maxRecDepth 100000
namespace Go.Proofs.YtbmoiajdknejnaaGreat
open Go.Sh
variable {gl : Nat → Option D}
/-- The sign that pointers may be compared. -/
abbrev clGl : Nat → Option D := fun g => if g = cleanAt then some (.pp [] 0) else none
abbrev dI (n : Int) : D := .v (.int .i64 n)
abbrev dB (b : Bool) : D := .v (.bool b)
abbrev dS (s : ByteArray) : D := .v (.string s)
abbrev dY (n : Int) : D := .v (.int .u8 n)
theorem wrap64 {n : Int} (h : -9223372036854775808 ≤ n) (h' : n ≤ 9223372036854775807) : IntKind.i64.wrap n = n := by rw [IntKind.wrap_i64]; omega
@[simp] theorem wrap_lit (n : Int) (h : -9223372036854775808 ≤ n) (h' : n ≤ 9223372036854775807) : IntKind.i64.wrap n = n := wrap64 h h'
@[simp] theorem bits_u32 : IntKind.u32.bits = 32 := (rfl)
@[simp] theorem bits_u64 : IntKind.u64.bits = 64 := (rfl)
@[simp] theorem bits_u8 : IntKind.u8.bits = 8 := (rfl)
@[simp] theorem bits_i64 : IntKind.i64.bits = 64 := (rfl)
/-- All numbers below n. -/
def allTo (p : Nat → Bool) (n : Nat) : Bool := (List.range n).all p
theorem allTo_true {p : Nat → Bool} {n : Nat} (h : ∀ j, j < n → p j = true) : allTo p n = true := List.all_eq_true.2 fun j hj => h j (List.mem_range.1 hj)
theorem allTo_false {p : Nat → Bool} {n i : Nat} (hi : i < n) (h : p i = false) : allTo p n = false := by
  cases hb : allTo p n with
  | false => rfl
  | true => have := List.all_eq_true.1 hb i (List.mem_range.2 hi); rw [h] at this; cases this
theorem allTo_iff {p : Nat → Bool} {n : Nat} : allTo p n = true ↔ ∀ j, j < n → p j = true :=
  ⟨fun h j hj => List.all_eq_true.1 h j (List.mem_range.2 hj), allTo_true⟩
theorem next_all {p : Nat → Bool} {i : Nat} (hp : ∀ j, j < i → p j = true) (h : p i = true) : ∀ j, j < i + 1 → p j = true := fun j hj => by
  rcases Nat.lt_or_ge j i with h1 | h1
  · exact hp j h1
  · have : j = i := by omega
    subst this; exact h

abbrev namesD (l : List ByteArray) : D := .ps (l.map dS) l.length
def NamesOk (l : List ByteArray) : Prop := l.length ≤ 4611686018427387903 ∧ ∀ s ∈ l, s.size ≤ 4611686018427387904

/-- The measure of a loop that counts up in a slot. -/
def upTo (k n : Nat) (E : Env) (S : St) : Nat := match E k with | some (.d (.v (.int _ i))) => n - i.toNat | _ => 0
theorem upTo_lt {k n i : Nat} {E E' : Env} {S S' : St} (h : E k = some (.d (dI i))) (h' : E' k = some (.d (dI ((i : Int) + 1)))) (hi : i < n) : upTo k n E' S' < upTo k n E S := by
  unfold upTo
  rw [h, h']
  simp only
  omega

/-! ### rows -/
section
variable {α β : Type} {enc : α → List β} {k : Nat}
theorem row_len (h : ∀ x, (enc x).length = k) : ∀ l : List α, (l.flatMap enc).length = l.length * k
  | [] => by simp
  | x :: r => by rw [List.flatMap_cons, List.length_append, h x, row_len h r, List.length_cons, Nat.add_mul]; omega
theorem row_drop (h : ∀ x, (enc x).length = k) : ∀ (l : List α) (i : Nat), (l.flatMap enc).drop (i * k) = (l.drop i).flatMap enc
  | [], i => by simp
  | x :: r, 0 => by simp
  | x :: r, i + 1 => by
    rw [List.flatMap_cons, List.drop_succ_cons, ← row_drop h r i, Nat.add_mul, Nat.one_mul, List.drop_append, h x]
    rw [List.drop_eq_nil_of_le (by rw [h x]; omega), List.nil_append]
    congr 1; omega
/-- The cells of an element. -/
theorem row_at (h : ∀ x, (enc x).length = k) (l : List α) (i : Nat) (hi : i < l.length) : ((l.flatMap enc).drop (i * k)).take k = enc l[i] := by
  rw [row_drop h, List.drop_eq_getElem_cons hi, List.flatMap_cons, List.take_append, h]
  rw [List.take_of_length_le (by rw [h]; omega)]
  simp

/-- The first i of a row are there, the others are still what they were. -/
def filled (enc : α → List β) (z : List β) (l : List α) (i : Nat) : List β := (l.take i).flatMap enc ++ (List.replicate (l.length - i) z).flatten
variable {z : List β}
theorem zeros_len (hz : z.length = k) (n : Nat) : ((List.replicate n z).flatten).length = n * k := by
  simp [List.length_flatten, hz]
theorem filled_len (h : ∀ x, (enc x).length = k) (hz : z.length = k) (l : List α) {i : Nat} (hi : i ≤ l.length) : (filled enc z l i).length = l.length * k := by
  unfold filled
  rw [List.length_append, row_len h, zeros_len hz, List.length_take, ← Nat.add_mul]
  congr 1; omega
theorem filled_next (h : ∀ x, (enc x).length = k) (hz : z.length = k) (l : List α) {i : Nat} (hi : i < l.length) : (filled enc z l i).take (i * k) ++ enc l[i] ++ (filled enc z l i).drop (i * k + k) = filled enc z l (i + 1) := by
  have e1 : ((l.take i).flatMap enc).length = i * k := by rw [row_len h, List.length_take]; congr 1; omega
  unfold filled
  rw [List.take_append, List.drop_append, e1]
  rw [List.take_of_length_le (by omega), Nat.sub_self, List.take_zero, List.append_nil, List.drop_eq_nil_of_le (by omega), List.nil_append]
  have e2 : i * k + k - i * k = k := by omega
  have e3 : l.length - i = (l.length - (i + 1)) + 1 := by omega
  rw [e2, e3, List.replicate_succ, List.flatten_cons, List.drop_append, hz, Nat.sub_self, List.drop_eq_nil_of_le (by omega), List.nil_append]
  rw [List.take_succ_eq_append_getElem hi, List.flatMap_append]
  simp
theorem filled_all (l : List α) : filled enc z l l.length = l.flatMap enc := by
  unfold filled; simp
theorem filled_none (l : List α) : filled enc z l 0 = (List.replicate l.length z).flatten := by
  unfold filled; simp
/-- A new row's cells. -/
theorem made_row (d : β) (hz : z.length = k) : ∀ n : Nat, ((List.range (n * k)).map fun j => z.getD (j % k) d) = (List.replicate n z).flatten
  | 0 => by simp
  | n + 1 => by
    have ih := made_row d hz n
    rw [List.replicate_succ', List.flatten_append, ← ih, Nat.add_mul, Nat.one_mul, List.range_add, List.map_append]
    congr 1
    simp only [List.map_map, List.flatten_cons, List.flatten_nil, List.append_nil]
    apply List.ext_getElem
    · simp [hz]
    · intro j h1 h2
      simp only [List.length_map, List.length_range] at h1
      simp only [List.getElem_map, List.getElem_range, Function.comp_apply]
      rw [Nat.mul_comm n k, Nat.mul_add_mod, Nat.mod_eq_of_lt h1, List.getD_eq_getElem?_getD, List.getElem?_eq_getElem (by omega)]
      rfl
end
theorem map_flat {α β : Type} (f : α → β) (l : List α) : l.map f = l.flatMap fun x => [f x] := by
  induction l with
  | nil => rfl
  | cons x r ih => simp [ih]

theorem madeS_row (zs : List SV) (n : Nat) : madeS zs zs.length n = (List.replicate n zs).flatten := made_row _ rfl n

@[simp] theorem madeS_one (z : SV) (n : Nat) : madeS [z] 1 n = List.replicate n z := by
  have := madeS_row [z] n
  simpa using this

abbrev sS (s : ByteArray) : List SV := [.d (dS s)]
theorem sS_row (l : List ByteArray) : l.flatMap sS = (l.map dS).map .d := by
  rw [List.map_map, map_flat]; rfl
@[simp] theorem drop_made {α : Type} (f : Nat → α) (n : Nat) : ((List.range n).map f).drop n = [] := by simp
/-- What a call leaves of the variables. -/
def lookN {α : Type} : List (Nat × α) → Nat → Option α
  | [], _ => none
  | (k, v) :: r, x => if x = k then some v else lookN r x
@[simp] theorem lookN_nil {α : Type} (x : Nat) : lookN (α := α) [] x = none := (rfl)
@[simp] theorem lookN_cons {α : Type} (k : Nat) (v : α) (r : List (Nat × α)) (x : Nat) : lookN ((k, v) :: r) x = if x = k then some v else lookN r x := (rfl)
theorem lookN_mem {α : Type} : ∀ {L : List (Nat × α)} {x : Nat} {y : α}, lookN L x = some y → (x, y) ∈ L
  | (k, v) :: L, x, y, h => by
    simp only [lookN_cons] at h
    split at h
    · rename_i e
      cases h; subst e
      exact List.mem_cons_self
    · exact List.mem_cons_of_mem _ (lookN_mem h)
def leftF {α : Type} (n : Nat) (f : Nat → Option α) (L : List (Nat × α)) (x : Nat) : Option α := match lookN L x with | some cs => some cs | none => if x < n then f x else none
theorem leftF_less {α : Type} {n : Nat} {f g : Nat → Option α} {L : List (Nat × α)} (h1 : ∀ p ∈ L, g p.1 = some p.2) (h2 : ∀ x, x < n → lookN L x = none → g x = f x) {x : Nat} {y : α} (h : leftF n f L x = some y) : g x = some y := by
  unfold leftF at h
  split at h
  · rename_i cs' h3
    cases h
    exact h1 _ (lookN_mem h3)
  · rename_i h3
    split at h
    · rename_i h4; rw [h2 x h4 h3]; exact h
    · cases h
theorem leftF_old {α : Type} {n : Nat} {f : Nat → Option α} {L : List (Nat × α)} {x : Nat} (h : lookN L x = none) (hx : x < n) : leftF n f L x = f x := by
  unfold leftF; rw [h]; exact if_pos hx
def leftS (S : St) (k : Nat) (B : List (Nat × List SV)) (T : List (Nat × (Nat × Nat))) : St :=
  { S with B := leftF S.nx S.B B, T := leftF S.nx S.T T, nx := S.nx + k }
theorem leftS_keeps (S : St) (k : Nat) (B : List (Nat × List SV)) (T : List (Nat × (Nat × Nat))) : Keeps S (leftS S k B T) := ⟨rfl, rfl, rfl, by simp [leftS]⟩
theorem elder_left {S S1 : St} {k : Nat} {B : List (Nat × List SV)} {T : List (Nat × (Nat × Nat))} (hB : ∀ p ∈ B, S1.B p.1 = some p.2) (hT : ∀ p ∈ T, S1.T p.1 = some p.2) (hBl : ∀ p ∈ B, p.1 < S.nx + k ∧ ltS (S.nx + k) p.2 = true) (hTl : ∀ p ∈ T, p.1 < S.nx + k)
    (hB2 : ∀ x, x < S.nx → lookN B x = none → S1.B x = S.B x) (hT2 : ∀ x, x < S.nx → lookN T x = none → S1.T x = S.T x) : Elder S (leftS S k B T) S1 := by
  refine ⟨rfl, rfl, rfl, Nat.le_add_right _ _, fun b cs h => ?_, fun i p h => ?_, fun b h => leftF_less hB hB2 h⟩
  · have h1 := leftF_less hB hB2 h
    simp only [leftS, leftF] at h ⊢
    split at h
    · rename_i cs' h3
      cases h
      have := hBl _ (lookN_mem h3)
      exact ⟨this.1, ⟨[], by simpa using h1⟩, .inl this.2⟩
    · split at h
      · rename_i h4; exact ⟨by omega, ⟨[], by simpa using h1⟩, .inr h⟩
      · cases h
  · have h1 := leftF_less hT hT2 h
    simp only [leftS, leftF] at h ⊢
    split at h
    · rename_i cs' h3
      exact ⟨hTl _ (lookN_mem h3), h1⟩
    · split at h
      · rename_i h4; exact ⟨by omega, h1⟩
      · cases h
@[simp] theorem leftS_n (S : St) (k : Nat) (B : List (Nat × List SV)) (T : List (Nat × (Nat × Nat))) : (leftS S k B T).n = S.n := (rfl)
@[simp] theorem leftS_md (S : St) (k : Nat) (B : List (Nat × List SV)) (T : List (Nat × (Nat × Nat))) : (leftS S k B T).md = S.md := (rfl)
@[simp] theorem leftS_gl (S : St) (k : Nat) (B : List (Nat × List SV)) (T : List (Nat × (Nat × Nat))) : (leftS S k B T).gl = S.gl := (rfl)
@[simp] theorem leftS_nx (S : St) (k : Nat) (B : List (Nat × List SV)) (T : List (Nat × (Nat × Nat))) : (leftS S k B T).nx = S.nx + k := (rfl)
@[simp] theorem leftS_B (S : St) (k : Nat) (B : List (Nat × List SV)) (T : List (Nat × (Nat × Nat))) (x : Nat) : (leftS S k B T).B x = leftF S.nx S.B B x := (rfl)
@[simp] theorem leftS_T (S : St) (k : Nat) (B : List (Nat × List SV)) (T : List (Nat × (Nat × Nat))) (x : Nat) : (leftS S k B T).T x = leftF S.nx S.T T x := (rfl)
@[simp] theorem leftF_cons {α : Type} (n : Nat) (f : Nat → Option α) (k : Nat) (v : α) (r : List (Nat × α)) (x : Nat) : leftF n f ((k, v) :: r) x = if x = k then some v else leftF n f r x := by
  unfold leftF; simp only [lookN_cons]; by_cases h : x = k <;> simp [h]
@[simp] theorem leftF_nil {α : Type} (n : Nat) (f : Nat → Option α) (x : Nat) : leftF n f [] x = if x < n then f x else none := by
  unfold leftF; simp only [lookN_nil]
/-- The elder variables and tips, but those of two lists, are as they were. -/
def Old (S0 : St) (bs ts : List Nat) (S : St) : Prop := ∀ x, x < S0.nx → (¬ x ∈ bs → S.B x = S0.B x) ∧ (¬ x ∈ ts → S.T x = S0.T x)
section
variable {S0 S : St} {bs ts : List Nat}
theorem Old.refl (S0 : St) (bs ts : List Nat) : Old S0 bs ts S0 := fun _ _ => ⟨fun _ => rfl, fun _ => rfl⟩
theorem Old.more {bs' ts' : List Nat} (h : Old S0 bs ts S) (hb : ∀ x ∈ bs, x ∈ bs') (ht : ∀ x ∈ ts, x ∈ ts') : Old S0 bs' ts' S :=
  fun x hx => ⟨fun h1 => (h x hx).1 fun h2 => h1 (hb x h2), fun h1 => (h x hx).2 fun h2 => h1 (ht x h2)⟩
@[simp] theorem old_adv {k : Nat} : Old S0 bs ts (S.adv k) = Old S0 bs ts S := (rfl)
@[simp] theorem old_mk {n nx : Nat} {md : List Nat} {gl : Nat → Option D} : Old S0 bs ts { B := S0.B, T := S0.T, n := n, nx := nx, md := md, gl := gl } = True := by
  simp [Old]
theorem old_set {q : Nat} {cs : List SV} (h : S0.nx ≤ q) : Old S0 bs ts (S.set q cs) = Old S0 bs ts S := by
  unfold Old
  refine propext (forall_congr' fun x => forall_congr' fun hx => ?_)
  simp [show ¬ x = q by omega]
theorem old_new {q : Nat} {cs : List SV} (h : S0.nx ≤ q) : Old S0 bs ts (S.new q cs) = Old S0 bs ts S := by
  unfold Old
  refine propext (forall_congr' fun x => forall_congr' fun hx => ?_)
  simp [show ¬ x = q by omega]
theorem old_tip {q k sz : Nat} (h : S0.nx ≤ q) : Old S0 bs ts (S.tipTo q k sz) = Old S0 bs ts S := by
  unfold Old
  refine propext (forall_congr' fun x => forall_congr' fun hx => ?_)
  simp [St.tipTo, show ¬ x = q by omega]
theorem old_setIn {q : Nat} {cs : List SV} (h : q ∈ bs) : Old S0 bs ts (S.set q cs) = Old S0 bs ts S := by
  unfold Old
  refine propext (forall_congr' fun x => forall_congr' fun hx => ?_)
  by_cases hb : x ∈ bs
  · simp [hb]
  · simp [hb, show ¬ x = q from fun e => hb (e ▸ h)]
theorem old_tipIn {q k sz : Nat} (h : q ∈ ts) : Old S0 bs ts (S.tipTo q k sz) = Old S0 bs ts S := by
  unfold Old
  refine propext (forall_congr' fun x => forall_congr' fun hx => ?_)
  by_cases hb : x ∈ ts
  · simp [hb, St.tipTo]
  · simp [hb, St.tipTo, show ¬ x = q from fun e => hb (e ▸ h)]
theorem old_left {k : Nat} {B : List (Nat × List SV)} {T : List (Nat × (Nat × Nat))} (h : S0.nx ≤ S.nx) (hB : ∀ p ∈ B, p.1 ∈ bs ∨ S0.nx ≤ p.1) (hT : ∀ p ∈ T, p.1 ∈ ts ∨ S0.nx ≤ p.1) (ho : Old S0 bs ts S) : Old S0 bs ts (leftS S k B T) := by
  intro x hx
  refine ⟨fun hb => ?_, fun ht => ?_⟩
  · have : lookN B x = none := by
      cases hl : lookN B x with
      | none => rfl
      | some y => rcases hB _ (lookN_mem hl) with h1 | h1 <;> simp only at h1
                  · exact absurd h1 hb
                  · omega
    simp only [leftS]
    rw [leftF_old this (by omega)]
    exact (ho x hx).1 hb
  · have : lookN T x = none := by
      cases hl : lookN T x with
      | none => rfl
      | some y => rcases hT _ (lookN_mem hl) with h1 | h1 <;> simp only at h1
                  · exact absurd h1 ht
                  · omega
    simp only [leftS]
    rw [leftF_old this (by omega)]
    exact (ho x hx).2 ht
end
theorem elder_old {S0 S1 : St} {k : Nat} {B : List (Nat × List SV)} {T : List (Nat × (Nat × Nat))} {bs ts : List Nat} (h : Old S0 bs ts S1) (hB : ∀ p ∈ B, S1.B p.1 = some p.2) (hT : ∀ p ∈ T, S1.T p.1 = some p.2) (hBl : ∀ p ∈ B, p.1 < S0.nx + k ∧ ltS (S0.nx + k) p.2 = true) (hTl : ∀ p ∈ T, p.1 < S0.nx + k)
    (hB2 : ∀ x ∈ bs, x < S0.nx → lookN B x = none → S1.B x = S0.B x) (hT2 : ∀ x ∈ ts, x < S0.nx → lookN T x = none → S1.T x = S0.T x) : Elder S0 (leftS S0 k B T) S1 :=
  elder_left hB hT hBl hTl (fun x hx hl => if hb : x ∈ bs then hB2 x hb hx hl else (h x hx).1 hb) (fun x hx hl => if hb : x ∈ ts then hT2 x hb hx hl else (h x hx).2 hb)
/-- Of one variable the first cells alone are still known. -/
def onlyS (S : St) (b : Nat) (cs : List SV) : St := { S with B := fun x => if x = b then some cs else none, T := fun _ => none }
@[simp] theorem onlyS_n (S : St) (b : Nat) (cs : List SV) : (onlyS S b cs).n = S.n := (rfl)
@[simp] theorem onlyS_md (S : St) (b : Nat) (cs : List SV) : (onlyS S b cs).md = S.md := (rfl)
@[simp] theorem onlyS_gl (S : St) (b : Nat) (cs : List SV) : (onlyS S b cs).gl = S.gl := (rfl)
@[simp] theorem onlyS_nx (S : St) (b : Nat) (cs : List SV) : (onlyS S b cs).nx = S.nx := (rfl)
@[simp] theorem onlyS_B (S : St) (b : Nat) (cs : List SV) (x : Nat) : (onlyS S b cs).B x = if x = b then some cs else none := (rfl)
@[simp] theorem onlyS_T (S : St) (b : Nat) (cs : List SV) (x : Nat) : (onlyS S b cs).T x = none := (rfl)
end Go.Proofs.YtbmoiajdknejnaaGreat

/- The laws' own functions on lists of texts. -/
set_option linter.unusedVariables false
set_option linter.unusedSimpArgs false
set_option maxRecDepth 100000
namespace Go.Proofs.YtbmoiajdknejnaaGreat
open Go.Sh
variable {gl : Nat → Option D}
/-! ### the laws' own: sizes, copies, comparisons -/
def szGo : List ByteArray → Int → Int
  | [], r => r
  | s :: t, r => if r - s.size < 0 then -1 else szGo t (r - s.size)
def szNames (l : List ByteArray) (left : Int) : Int := if left - l.length < 0 then -1 else szGo l (left - l.length)

set_option maxHeartbeats 1000000 in
theorem p_szStringS (l : List ByteArray) (left : Int) (hl : NamesOk l) (h0 : 0 ≤ left) (hb : left ≤ 4611686018427387904) : PCall Tryz.prog gl 128 [namesD l, dI left] (dI (szNames l left)) := by
  refine PCall.by_ (md := []) Tryz.func128 rfl (by kernel_rfl) (n := 28) Tryz.ntmps128 (by simp) (by decide) rfl ?_
  have hlen := hl.1
  have w0 : IntKind.i64.wrap (left - l.length) = left - l.length := wrap64 (by omega) (by omega)
  simp [w0]
  refine BrT.dec (fun h => ?_) (fun h => ?_)
  · have : szNames l left = -1 := if_pos (by omega)
    simp [w0, h, this]
  have hsz : szNames l left = szGo l (left - l.length) := if_neg (by omega)
  simp [w0, h]
  refine LoopT.round (fun E S => ∃ (i : Nat) (r : Int), i ≤ l.length ∧ 0 ≤ r ∧ r ≤ 4611686018427387904 ∧ E 0 = some (.d (namesD l)) ∧ E 1 = some (.d (dI r)) ∧ E 5 = some (.d (dI i)) ∧ szGo (l.drop i) r = szNames l left) (upTo 5 l.length) ⟨0, left - l.length, by simp [hsz]; omega⟩ ?_
  rintro E S hk ⟨i, r, hi, hr0, hr1, h0, h1, h5, hp⟩
  have hn : S.n = 28 := by simpa using hk.n
  have w : IntKind.i64.wrap ((i : Int) + 1) = (i : Int) + 1 := wrap64 (by omega) (by omega)
  simp [h0, h1, h5, hn]
  refine BrT.dec (fun h => ?_) (fun h => ?_)
  · have hi2 : i < l.length := by omega
    have hs := hl.2 l[i] (List.getElem_mem hi2)
    have w2 : IntKind.i64.wrap (r - l[i].size) = r - l[i].size := wrap64 (by omega) (by omega)
    have hd : szGo (l.drop i) r = if r - l[i].size < 0 then -1 else szGo (l.drop (i + 1)) (r - l[i].size) := by
      rw [List.drop_eq_getElem_cons hi2]; rfl
    simp [h0, h1, h5, hn, hi2, w2]
    refine BrT.dec (fun he => ?_) (fun he => ?_)
    · rw [hd, if_pos (by omega)] at hp
      simp [h0, h1, h5, hn, he, hp]
    · rw [hd, if_neg (by omega)] at hp
      simp [h0, h1, h5, hn, w, he, w2]
      exact ⟨⟨i + 1, by omega, r - l[i].size, by omega, by omega, rfl, by omega, hp⟩, upTo_lt h5 (by simp) hi2⟩
  · rw [List.drop_eq_nil_of_le (by omega)] at hp
    simp [h0, h1, h5, hn, ← hp, szGo]
set_option maxHeartbeats 1000000 in
theorem p_toStringS (l : List ByteArray) (hl : l.length ≤ 1048576) : PCall Tryz.prog gl 136 [namesD l] (namesD l) := by
  refine PCall.by_ (md := []) Tryz.func136 rfl (by kernel_rfl) (n := 22) Tryz.ntmps136 (by simp) (by decide) rfl ?_
  simp
  refine ⟨by omega, ?_⟩
  refine LoopT.round (fun E S => ∃ i : Nat, i ≤ l.length ∧ E 0 = some (.d (namesD l)) ∧ E 3 = some (.os 3 0 l.length) ∧ E 4 = some (.d (dI i)) ∧ S.B 3 = some (filled sS [.d (dS ⟨#[]⟩)] l i)) (upTo 4 l.length) ⟨0, by simp [filled_none]⟩ ?_
  rintro E S hk ⟨i, hi, h0, h3, h4, hB⟩
  have hn : S.n = 22 := by simpa using hk.n
  have w : IntKind.i64.wrap ((i : Int) + 1) = (i : Int) + 1 := wrap64 (by omega) (by omega)
  simp [h0, h3, h4, hn]
  refine BrT.dec (fun h => ?_) (fun h => ?_)
  · have hi2 : i < l.length := by omega
    have hlen := filled_len (enc := sS) (z := [.d (dS ⟨#[]⟩)]) (fun _ => rfl) rfl l hi
    have hnext := filled_next (enc := sS) (z := [.d (dS ⟨#[]⟩)]) (fun _ => rfl) rfl l hi2
    simp only [Nat.mul_one] at hlen hnext
    simp [h0, h3, h4, hn, hi2, hB, w, hlen]
    refine ⟨by omega, ⟨i + 1, by omega, rfl, ?_⟩, upTo_lt h4 (by simp) hi2⟩
    rw [← hnext]
    simp
  · have hi3 : i = l.length := by omega
    subst hi3
    rw [filled_all, sS_row] at hB
    simp [h0, h3, h4, hn, hB]
set_option maxHeartbeats 1000000 in
theorem p_eqStringS (l : List ByteArray) (hl : l.length ≤ 4611686018427387904) : PCall Tryz.prog gl 44 [namesD l, namesD l] (dB true) := by
  refine PCall.by_ (md := []) Tryz.func44 rfl (by kernel_rfl) (n := 26) Tryz.ntmps44 (by simp) (by decide) rfl ?_
  simp
  refine LoopT.round (fun E S => ∃ i : Nat, i ≤ l.length ∧ E 0 = some (.d (namesD l)) ∧ E 1 = some (.d (namesD l)) ∧ E 5 = some (.d (dI i))) (upTo 5 l.length) ⟨0, by simp⟩ ?_
  rintro E S hk ⟨i, hi, h0, h1, h5⟩
  have hn : S.n = 26 := by simpa using hk.n
  have w : IntKind.i64.wrap ((i : Int) + 1) = (i : Int) + 1 := wrap64 (by omega) (by omega)
  simp [h0, h1, h5, hn]
  refine BrT.dec (fun h => ?_) (fun h => ?_)
  · have hi2 : i < l.length := by omega
    simp [h0, h1, h5, hn, hi2, w]
    exact ⟨DrawT.mk (by kernel_rfl), ⟨i + 1, by omega, rfl⟩, upTo_lt h5 (by simp) hi2⟩
  · simp [h0, h1, h5, hn]

end Go.Proofs.YtbmoiajdknejnaaGreat

/- Bytes, names: what the functions on them come to. -/
set_option linter.unusedVariables false
set_option linter.unusedSimpArgs false
set_option maxRecDepth 100000
namespace Go.Proofs.YtbmoiajdknejnaaGreat
open Go.Sh
variable {gl : Nat → Option D}
theorem p_l1In (a b c : Int) : PCall Tryz.prog gl 170 [dI a, dI b, dI c] (dB (decide (b ≤ a) && decide (a ≤ c))) := by
  refine PCall.by_ (md := []) Tryz.func170 rfl (by kernel_rfl) (n := 15) Tryz.ntmps170 (by simp) (by decide) rfl ?_
  simp
  refine BrT.dec (fun h => ?_) (fun h => ?_) <;> simp [h]

def letterB (n : Int) : Bool := (decide (97 ≤ n) && decide (n ≤ 122)) || (decide (65 ≤ n) && decide (n ≤ 90)) || decide (n = 95)
def figureB (n : Int) : Bool := decide (48 ≤ n) && decide (n ≤ 57)
theorem p_l1Letter (n : Int) : PCall Tryz.prog gl 241 [dY n] (dB (letterB n)) := by
  refine PCall.by_ (md := []) Tryz.func241 rfl (by kernel_rfl) (n := 21) Tryz.ntmps241 (by simp) (by decide) rfl ?_
  simp
  repeat' first
    | (refine BrT.dec (fun h => ?_) (fun h => ?_) <;> simp [h])
  all_goals (unfold letterB; simp [*])
theorem p_l1Figure (n : Int) : PCall Tryz.prog gl 242 [dY n] (dB (figureB n)) := by
  refine PCall.by_ (md := []) Tryz.func242 rfl (by kernel_rfl) (n := 9) Tryz.ntmps242 (by simp) (by decide) rfl ?_
  simp
  repeat' first
    | (refine BrT.dec (fun h => ?_) (fun h => ?_) <;> simp [h])
  all_goals (unfold figureB; simp [*])
theorem p_isFigure (n : Int) : PCall Tryz.prog gl 237 [dY n] (dB (figureB n)) := by
  refine PCall.by_ (md := []) Tryz.func237 rfl (by kernel_rfl) (n := 9) Tryz.ntmps237 (by simp) (by decide) rfl ?_
  simp
  repeat' first
    | (refine BrT.dec (fun h => ?_) (fun h => ?_) <;> simp [h])
  all_goals (unfold figureB; simp [*])
theorem p_isWordByte (n : Int) : PCall Tryz.prog gl 238 [dY n] (dB (letterB n || figureB n)) := by
  refine PCall.by_ (md := []) Tryz.func238 rfl (by kernel_rfl) (n := 25) Tryz.ntmps238 (by simp) (by decide) rfl ?_
  simp
  repeat' first
    | (refine BrT.dec (fun h => ?_) (fun h => ?_) <;> simp [h])
    | (refine CallT.p (p_isFigure _) rfl rfl ?_; simp)
  all_goals (unfold letterB; simp [*])

/-! ### names -/
def nameP (s : ByteArray) (i : Nat) : Bool := letterB (byteI s i) || (!decide (i = 0) && figureB (byteI s i))
def nameB (s : ByteArray) : Bool := allTo (nameP s) s.size && (decide (1 ≤ (s.size : Int)) && decide ((s.size : Int) ≤ 12))
set_option maxHeartbeats 1000000 in
theorem p_l1Name (s : ByteArray) (hs : s.size ≤ 4611686018427387904) : PCall Tryz.prog gl 168 [dS s] (dB (nameB s)) := by
  refine PCall.by_ (md := []) Tryz.func168 rfl (by kernel_rfl) (n := 29) Tryz.ntmps168 (by simp) (by decide) rfl ?_
  simp
  refine LoopT.round (fun E S => ∃ i : Nat, i ≤ s.size ∧ E 0 = some (.d (dS s)) ∧ E 3 = some (.d (dI i)) ∧ (∀ j, j < i → nameP s j = true)) (fun E S => match E 3 with | some (.d (.v (.int _ i))) => s.size - i.toNat | _ => 0) ⟨0, by simp⟩ ?_
  rintro E S hk ⟨i, hi, h0, h3, hp⟩
  have hn : S.n = 29 := by simpa using hk.n
  have hg : S.gl = gl := by simpa using hk.gl
  have w : IntKind.i64.wrap ((i : Int) + 1) = (i : Int) + 1 := wrap64 (by omega) (by omega)
  simp [h0, h3, hn]
  refine BrT.dec (fun h => ?_) (fun h => ?_)
  · have hi2 : i < s.size := by omega
    simp [h0, h3, hn, hi2]
    refine CallT.p (p_l1Letter _) (by first | rfl | simp [hg]) rfl ?_
    simp [h0, h3, hn, hi2]
    have bad : nameP s i = false → nameB s = false := fun h1 => by rw [nameB, allTo_false hi2 h1]; rfl
    refine BrT.mk (fun hl => ?_) (fun hl => ?_)
    · simp [h0, h3, hn, hl, w]
      exact ⟨⟨i + 1, by omega, rfl, next_all hp (by simp [nameP, hl])⟩, by omega⟩
    · simp [h0, h3, hn, hl]
      refine BrT.dec (fun hz => ?_) (fun hz => ?_)
      · have hq := bad (by subst hz; simp [nameP, hl])
        simp [h0, h3, hn, hl, hz, hq]
      · simp [h0, h3, hn, hl, hz, hi2]
        refine CallT.p (p_l1Figure _) (by first | rfl | simp [hg]) rfl ?_
        simp [h0, h3, hn, hl, hz]
        refine BrT.mk (fun hf => ?_) (fun hf => ?_)
        · simp [h0, h3, hn, hl, hz, hf, w]
          exact ⟨⟨i + 1, by omega, rfl, next_all hp (by simp [nameP, hl, hz, hf])⟩, by omega⟩
        · have hq := bad (by simp [nameP, hl, hz, hf])
          simp [h0, h3, hn, hl, hz, hf, hq]
  · simp [h0, h3, hn]
    have hi3 : i = s.size := by omega
    subst hi3
    refine CallT.p (p_l1In _ _ _) (by first | rfl | simp [hg]) rfl ?_
    simp [nameB, allTo_true hp, hn]

theorem nameB_short {s : ByteArray} (h : (s.size : Int) < 1) : nameB s = false := by
  have : ¬ (1 ≤ (s.size : Int)) := by omega
  simp [nameB, this]
theorem nameB_long {s : ByteArray} (h : 12 < (s.size : Int)) : nameB s = false := by
  have : ¬ ((s.size : Int) ≤ 12) := by omega
  simp [nameB, this]
theorem not_letter {n : Int} (h : figureB n = true) : letterB n = false := by
  simp only [figureB, letterB, Bool.and_eq_true, Bool.or_eq_false_iff, decide_eq_true_eq, Bool.and_eq_false_iff, decide_eq_false_iff_not] at *
  omega
set_option maxHeartbeats 1000000 in
theorem p_isName (s : ByteArray) (hs : s.size ≤ 4611686018427387904) : PCall Tryz.prog gl 153 [dS s] (dB (nameB s)) := by
  refine PCall.by_ (md := []) Tryz.func153 rfl (by kernel_rfl) (n := 28) Tryz.ntmps153 (by simp) (by decide) rfl ?_
  simp
  refine BrT.dec (fun h => ?_) (fun h => ?_)
  · simp [h, nameB_short (s := s) (by omega)]
  have h1 : 0 < s.size := by omega
  simp [h]
  refine BrT.dec (fun h2 => ?_) (fun h2 => ?_)
  · simp [h, h2, nameB_long (s := s) (by omega)]
  simp [h, h2, h1]
  refine CallT.p (p_isFigure _) rfl rfl ?_
  simp [h, h2]
  refine BrT.mk (fun hf => ?_) (fun hf => ?_)
  · have : nameB s = false := by
      rw [nameB, allTo_false h1 (by simp [nameP, not_letter hf])]; rfl
    simp [h, h2, hf, this]
  simp [h, h2, hf]
  refine LoopT.round (fun E S => ∃ i : Nat, i ≤ s.size ∧ E 0 = some (.d (dS s)) ∧ E 18 = some (.d (dI s.size)) ∧ E 19 = some (.d (dI i)) ∧ (∀ j, j < i → nameP s j = true)) (fun E S => match E 19 with | some (.d (.v (.int _ i))) => s.size - i.toNat | _ => 0) ⟨0, by simp⟩ ?_
  rintro E S hk ⟨i, hi, h0, h18, h19, hp⟩
  have hn : S.n = 28 := by simpa using hk.n
  have hg : S.gl = gl := by simpa using hk.gl
  have w : IntKind.i64.wrap ((i : Int) + 1) = (i : Int) + 1 := wrap64 (by omega) (by omega)
  simp [h0, h18, h19, hn]
  refine BrT.dec (fun h3 => ?_) (fun h3 => ?_)
  · have hi2 : i < s.size := by omega
    simp [h0, h18, h19, hn, hi2]
    have key : (letterB (byteI s i) || figureB (byteI s i)) = nameP s i := by
      by_cases hz : i = 0
      · subst hz; simp [nameP, hf]
      · simp [nameP, hz]
    have pw := p_isWordByte (gl := gl) (byteI s i)
    rw [key] at pw
    refine CallT.p pw (by first | rfl | simp [hg]) rfl ?_
    simp [h0, h18, h19, hn]
    refine BrT.mk (fun hl => ?_) (fun hl => ?_)
    · simp [h0, h18, h19, hn, hl, w]
      exact ⟨⟨i + 1, by omega, rfl, next_all hp hl⟩, by omega⟩
    · have hq : nameB s = false := by rw [nameB, allTo_false hi2 hl]; rfl
      simp [h0, h18, h19, hn, hl, hq]
  · have hi3 : i = s.size := by omega
    subst hi3
    have c1 : (1 : Int) ≤ s.size := by omega
    have c2 : (s.size : Int) ≤ 12 := by omega
    have hq : nameB s = true := by simp [nameB, allTo_true hp]; omega
    simp [h0, h18, h19, hn, hq]
end Go.Proofs.YtbmoiajdknejnaaGreat

/- Lists of texts: what the functions on them come to. -/
set_option linter.unusedVariables false
set_option linter.unusedSimpArgs false
set_option maxRecDepth 100000
namespace Go.Proofs.YtbmoiajdknejnaaGreat
open Go.Sh
variable {gl : Nat → Option D}
def idxI (x : ByteArray) (l : List ByteArray) : Int := if l.findIdx (fun y => decide (x = y)) < l.length then (l.findIdx (fun y => decide (x = y)) : Int) else -1
theorem idxI_found {x : ByteArray} {l : List ByteArray} {i : Nat} (hi : i < l.length) (h : ∀ j (hj : j < l.length), j < i → x ≠ l[j]) (he : x = l[i]) : idxI x l = i := by
  have e : l.findIdx (fun y => decide (x = y)) = i := by
    rw [List.findIdx_eq hi]
    exact ⟨by simp [he], fun j hj => by simpa using h j (by omega) hj⟩
  unfold idxI
  rw [e, if_pos hi]
theorem idxI_none {x : ByteArray} {l : List ByteArray} (h : ∀ j (hj : j < l.length), x ≠ l[j]) : idxI x l = -1 := by
  unfold idxI
  rw [if_neg]
  intro hlt
  have := List.findIdx_getElem (w := hlt)
  simp at this
  exact h _ hlt this
/-- Is a text among texts? -/
def memB (x : ByteArray) (l : List ByteArray) : Bool := l.any fun y => decide (x = y)
theorem memB_iff {x : ByteArray} {l : List ByteArray} : memB x l = true ↔ x ∈ l := by
  simp [memB]
theorem idxI_mem {x : ByteArray} {l : List ByteArray} : decide (0 ≤ idxI x l) = memB x l := by
  by_cases h : x ∈ l
  · have hlt : l.findIdx (fun y => decide (x = y)) < l.length := List.findIdx_lt_length_of_exists ⟨x, h, by simp⟩
    rw [memB_iff.2 h]
    unfold idxI
    rw [if_pos hlt]
    simp
  · have : idxI x l = -1 := idxI_none fun j hj e => h (e ▸ List.getElem_mem hj)
    have hb : memB x l = false := by
      cases hb : memB x l with
      | false => rfl
      | true => exact absurd (memB_iff.1 hb) h
    rw [this, hb]
    simp

set_option maxHeartbeats 1000000 in
theorem p_Index (l : List ByteArray) (x : ByteArray) (hl : l.length ≤ 4611686018427387904) : PCall Tryz.prog gl 240 [namesD l, dS x] (dI (idxI x l)) := by
  refine PCall.by_ (md := []) Tryz.func240 rfl (by kernel_rfl) (n := 19) Tryz.ntmps240 (by simp) (by decide) rfl ?_
  simp
  refine LoopT.round (fun E S => ∃ i : Nat, i ≤ l.length ∧ E 0 = some (.d (namesD l)) ∧ E 1 = some (.d (dS x)) ∧ E 7 = some (.d (dI l.length)) ∧ E 8 = some (.d (dI i)) ∧ (∀ j (hj : j < l.length), j < i → x ≠ l[j])) (upTo 8 l.length) ⟨0, by simp⟩ ?_
  rintro E S hk ⟨i, hi, h0, h1, h7, h8, hp⟩
  have hn : S.n = 19 := by simpa using hk.n
  have w : IntKind.i64.wrap ((i : Int) + 1) = (i : Int) + 1 := wrap64 (by omega) (by omega)
  simp [h0, h1, h7, h8, hn]
  refine BrT.dec (fun h => ?_) (fun h => ?_)
  · have hi2 : i < l.length := by omega
    simp [h0, h1, h7, h8, hn, hi2]
    refine BrT.dec (fun he => ?_) (fun he => ?_)
    · simp [h0, h1, h7, h8, hn, idxI_found hi2 hp he]
    · simp [h0, h1, h7, h8, hn, w]
      refine ⟨⟨i + 1, by omega, rfl, fun j hj hji => ?_⟩, upTo_lt h8 (by simp) hi2⟩
      rcases Nat.lt_or_ge j i with c | c
      · exact hp j hj c
      · have : j = i := by omega
        subst this; exact he
  · have : idxI x l = -1 := idxI_none fun j hj => hp j hj (by omega)
    simp [h0, h1, h7, h8, hn, this]

theorem p_Contains (l : List ByteArray) (x : ByteArray) (hl : l.length ≤ 4611686018427387904) : PCall Tryz.prog gl 165 [namesD l, dS x] (dB (memB x l)) := by
  refine PCall.by_ (md := []) Tryz.func165 rfl (by kernel_rfl) (n := 9) Tryz.ntmps165 (by simp) (by decide) rfl ?_
  simp
  refine CallT.p (p_Index l x hl) rfl rfl ?_
  simp
  rw [← idxI_mem]

end Go.Proofs.YtbmoiajdknejnaaGreat

/- Names, none twice; lists of texts compared. -/
set_option linter.unusedVariables false
set_option linter.unusedSimpArgs false
set_option maxRecDepth 100000
namespace Go.Proofs.YtbmoiajdknejnaaGreat
open Go.Sh
variable {gl : Nat → Option D}

/-- Text i of a list. -/
def nm (l : List ByteArray) (i : Nat) : ByteArray := l.getD i ⟨#[]⟩
theorem nm_at {l : List ByteArray} {i : Nat} (h : i < l.length) : l[i] = nm l i := by
  unfold nm
  rw [List.getD_eq_getElem?_getD, List.getElem?_eq_getElem h, Option.getD_some]
def onceP (l : List ByteArray) (i : Nat) : Bool := nameB (nm l i) && allTo (fun k => !decide (nm l k = nm l i)) i
def onceB (l : List ByteArray) : Bool := allTo (onceP l) l.length
theorem nm_size {l : List ByteArray} (hl : NamesOk l) {i : Nat} (h : i < l.length) : (nm l i).size ≤ 4611686018427387904 := by
  rw [← nm_at h]; exact hl.2 _ (List.getElem_mem h)

set_option maxHeartbeats 1000000 in
theorem p_l1Once (l : List ByteArray) (hl : NamesOk l) : PCall Tryz.prog gl 70 [namesD l] (dB (onceB l)) := by
  refine PCall.by_ (md := []) Tryz.func70 rfl (by kernel_rfl) (n := 31) Tryz.ntmps70 (by simp) (by decide) rfl ?_
  have hlen := hl.1
  simp
  refine LoopT.round (fun E S => ∃ i : Nat, i ≤ l.length ∧ E 0 = some (.d (namesD l)) ∧ E 3 = some (.d (dI i)) ∧ (∀ j, j < i → onceP l j = true)) (upTo 3 l.length) ⟨0, by simp⟩ ?_
  rintro E S hk ⟨i, hi, h0, h3, hp⟩
  have hn : S.n = 31 := by simpa using hk.n
  have hg : S.gl = gl := by simpa using hk.gl
  have w : IntKind.i64.wrap ((i : Int) + 1) = (i : Int) + 1 := wrap64 (by omega) (by omega)
  simp [h0, h3, hn]
  refine BrT.dec (fun h => ?_) (fun h => ?_)
  · have hi2 : i < l.length := by omega
    have bad : onceP l i = false → onceB l = false := fun h => allTo_false hi2 h
    simp [h0, h3, hn, hi2, nm_at]
    refine CallT.p (p_l1Name _ (nm_size hl hi2)) (by first | rfl | simp [hg]) rfl ?_
    simp [h0, h3, hn]
    refine BrT.mk (fun hb => ?_) (fun hb => ?_)
    · simp [h0, h3, hn, hb]
      refine LoopT.round (fun E S => ∃ k : Nat, k ≤ i ∧ E 0 = some (.d (namesD l)) ∧ E 3 = some (.d (dI i)) ∧ E 4 = some (.d (dI k)) ∧ (∀ j, j < k → (!decide (nm l j = nm l i)) = true)) (upTo 4 i) ⟨0, by simp [h0, h3]⟩ ?_
      rintro E2 S2 hk2 ⟨k, hki, g0, g3, g4, gp⟩
      have gn : S2.n = 31 := by have := hk2.n; simpa [hn] using this
      have w2 : IntKind.i64.wrap ((k : Int) + 1) = (k : Int) + 1 := wrap64 (by omega) (by omega)
      simp [g0, g3, g4, gn]
      refine BrT.dec (fun h => ?_) (fun h => ?_)
      · have hk3 : k < i := by omega
        have hk4 : k < l.length := by omega
        simp [g0, g3, g4, gn, hi2, hk4, nm_at]
        refine ⟨DrawT.mk (by kernel_rfl), ?_⟩
        refine BrT.dec (fun he => ?_) (fun he => ?_)
        · have := bad (by unfold onceP; rw [allTo_false hk3 (by simp [he])]; simp)
          simp [g0, g3, g4, gn, he, this]
        · simp [g0, g3, g4, gn, he, w2]
          refine ⟨⟨k + 1, by omega, rfl, fun j hj => ?_⟩, upTo_lt g4 (by simp) hk3⟩
          have := next_all gp (by simp [he]) j hj
          simpa using this
      · have hk3 : k = i := by omega
        subst hk3
        simp [g0, g3, g4, gn, w]
        refine ⟨⟨k + 1, by omega, rfl, next_all hp (by unfold onceP; rw [hb, allTo_true gp]; rfl)⟩, ?_⟩
        exact upTo_lt h3 (by simp) hi2
    · have := bad (by simp [onceP, hb])
      simp [h0, h3, hn, hb, this]
  · have hi3 : i = l.length := by omega
    subst hi3
    simp [h0, h3, hn, onceB, allTo_true hp]

theorem mem_take {l : List ByteArray} {i : Nat} (hi : i < l.length) : memB (nm l i) (l.take i) = !allTo (fun k => !decide (nm l k = nm l i)) i := by
  cases hb : allTo (fun k => !decide (nm l k = nm l i)) i with
  | true =>
    cases hm : memB (nm l i) (l.take i) with
    | false => rfl
    | true =>
      obtain ⟨k, hk, he⟩ := List.getElem_of_mem (memB_iff.1 hm)
      have hk2 : k < i := by simp at hk; omega
      have h2 := allTo_iff.1 hb k hk2
      rw [List.getElem_take, nm_at (by omega)] at he
      simp [he] at h2
  | false =>
    cases hm : memB (nm l i) (l.take i) with
    | true => rfl
    | false =>
      have : allTo (fun k => !decide (nm l k = nm l i)) i = true := allTo_true fun k hk => by
        cases hd : decide (nm l k = nm l i) with
        | false => rfl
        | true =>
          have he := of_decide_eq_true hd
          have hmem : nm l i ∈ l.take i := by
            rw [← he, ← nm_at (by omega : k < l.length)]
            exact List.mem_take_iff_getElem.2 ⟨k, by omega, rfl⟩
          rw [memB_iff.2 hmem] at hm; cases hm
      rw [this] at hb; cases hb

set_option maxHeartbeats 1000000 in
theorem p_namesOnce (l : List ByteArray) (hl : NamesOk l) : PCall Tryz.prog gl 156 [namesD l] (dB (onceB l)) := by
  refine PCall.by_ (md := []) Tryz.func156 rfl (by kernel_rfl) (n := 23) Tryz.ntmps156 (by simp) (by decide) rfl ?_
  have hlen := hl.1
  simp
  refine LoopT.round (fun E S => ∃ i : Nat, i ≤ l.length ∧ E 0 = some (.d (namesD l)) ∧ E 5 = some (.d (namesD l)) ∧ E 6 = some (.d (dI l.length)) ∧ E 7 = some (.d (dI i)) ∧ (∀ j, j < i → onceP l j = true)) (upTo 7 l.length) ⟨0, by simp⟩ ?_
  rintro E S hk ⟨i, hi, h0, h5, h6, h7, hp⟩
  have hn : S.n = 23 := by simpa using hk.n
  have hg : S.gl = gl := by simpa using hk.gl
  have w : IntKind.i64.wrap ((i : Int) + 1) = (i : Int) + 1 := wrap64 (by omega) (by omega)
  simp [h0, h5, h6, h7, hn]
  refine BrT.dec (fun h => ?_) (fun h => ?_)
  · have hi2 : i < l.length := by omega
    have bad : onceP l i = false → onceB l = false := fun h => allTo_false hi2 h
    simp [h0, h5, h6, h7, hn, hi2, nm_at]
    refine CallT.p (p_isName _ (nm_size hl hi2)) (by first | rfl | simp [hg]) rfl ?_
    simp [h0, h5, h6, h7, hn]
    refine BrT.mk (fun hb => ?_) (fun hb => ?_)
    · simp [h0, h5, h6, h7, hn, hb]
      refine ⟨by omega, ?_⟩
      have hc := p_Contains (gl := gl) (l.take i) (nm l i) (by simp; omega)
      rw [mem_take hi2] at hc
      refine CallT.p hc (by first | rfl | simp [hg]) (by simp; omega) ?_
      simp [h0, h5, h6, h7, hn, hb]
      refine BrT.mk (fun hd => ?_) (fun hd => ?_)
      · simp [h0, h5, h6, h7, hn, hb, hd, w]
        exact ⟨⟨i + 1, by omega, rfl, next_all hp (by unfold onceP; rw [hb, hd]; rfl)⟩, upTo_lt h7 (by simp) hi2⟩
      · have := bad (by unfold onceP; rw [hd]; simp)
        simp [h0, h5, h6, h7, hn, hb, hd, this]
    · have := bad (by simp [onceP, hb])
      simp [h0, h5, h6, h7, hn, hb, this]
  · have hi3 : i = l.length := by omega
    subst hi3
    simp [h0, h5, h6, h7, hn, onceB, allTo_true hp]
end Go.Proofs.YtbmoiajdknejnaaGreat

/- Values: what they are, and what the functions on a value's own form come to. -/
set_option linter.unusedVariables false
set_option linter.unusedSimpArgs false
set_option maxRecDepth 100000
namespace Go.Proofs.YtbmoiajdknejnaaGreat
open Go.Sh
variable {gl : Nat → Option D}
/-- A value: kind, number, text, list, names. -/
inductive Val where
  | mk (kind num : Int) (text : ByteArray) (list : List Val) (names : List ByteArray)
  deriving Inhabited
mutual
def Val.cells : Val → List D
  | .mk k n t l ns => [dI k, dI n, dS t, .ps (valsCells l) l.length, namesD ns]
def valsCells : List Val → List D
  | [] => []
  | v :: r => v.cells ++ valsCells r
end
abbrev Val.d (v : Val) : D := .agg v.cells
abbrev valsD (l : List Val) : D := .ps (valsCells l) l.length
theorem cells_len (v : Val) : v.cells.length = 5 := by cases v; rfl
@[simp] theorem take_cells (v : Val) : v.cells.take 5 = v.cells := List.take_of_length_le (by rw [cells_len]; exact Nat.le_refl _)
@[simp] theorem take_cellsS (v : Val) : (v.cells.map SV.d).take 5 = v.cells.map SV.d := List.take_of_length_le (by rw [List.length_map, cells_len]; exact Nat.le_refl _)
theorem valsCells_row : ∀ l : List Val, valsCells l = l.flatMap Val.cells
  | [] => by simp [valsCells]
  | v :: r => by rw [valsCells, valsCells_row r, List.flatMap_cons]
theorem valsCells_len (l : List Val) : (valsCells l).length = l.length * 5 := by rw [valsCells_row, row_len cells_len]
theorem valsCells_at (l : List Val) {i : Nat} (hi : i < l.length) : ((valsCells l).drop (i * 5)).take 5 = (l[i]).cells := by rw [valsCells_row, row_at cells_len l i hi]
inductive WF : Val → Prop
  | mk {k n : Int} {t : ByteArray} {l : List Val} {ns : List ByteArray} (ht : t.size ≤ 4611686018427387904) (hn : NamesOk ns) (hl : l.length ≤ 4611686018427387904) (h : ∀ v ∈ l, WF v) : WF (.mk k n t l ns)

/-- Nothing but what the kind needs. -/
def plainB (k n : Int) (t : ByteArray) (ll ln : Nat) : Bool :=
  if k = 0 then decide (n = 0) && decide (t = ⟨#[]⟩) && decide ((ll : Int) + ln = 0)
  else if k = 1 then decide (0 ≤ n) && decide (n ≤ 1) && decide (t = ⟨#[]⟩) && decide ((ll : Int) + ln = 0)
  else if k = 2 then decide (-2147483647 ≤ n) && decide (n ≤ 2147483647) && decide (t = ⟨#[]⟩) && decide ((ll : Int) + ln = 0)
  else if k = 3 then decide (n = 0) && decide ((t.size : Int) ≤ 40) && decide ((ll : Int) + ln = 0)
  else if k = 4 then decide (n = 0) && decide (t = ⟨#[]⟩) && decide ((ln : Int) = 0) && decide ((ll : Int) ≤ 12)
  else if k = 5 then decide (n = 0) && decide (t = ⟨#[]⟩) && decide ((ln : Int) = ll) && decide ((ll : Int) ≤ 12)
  else if k = 6 ∨ k = 7 then decide (n = 0) && nameB t && decide ((ll : Int) + ln = 0)
  else false

set_option maxHeartbeats 4000000 in
theorem p_l1Plain (k n : Int) (t : ByteArray) (l : List Val) (ns : List ByteArray) (ht : t.size ≤ 4611686018427387904) (hl : l.length ≤ 4611686018427387904) (hn : ns.length ≤ 4611686018427387903) : PCall Tryz.prog gl 190 [(Val.mk k n t l ns).d] (dB (plainB k n t l.length ns.length)) := by
  refine PCall.by_ (md := []) Tryz.func190 rfl (by kernel_rfl) (n := 154) Tryz.ntmps190 (by simp) (by decide) rfl ?_
  have w : IntKind.i64.wrap ((l.length : Int) + ns.length) = (l.length : Int) + ns.length := wrap64 (by omega) (by omega)
  simp [Val.cells]
  repeat' first
    | (refine BrT.dec (fun h => ?_) (fun h => ?_) <;> simp [h, Val.cells, w])
    | (refine CallT.p (p_l1In _ _ _) rfl rfl ?_; simp [Val.cells, w])
    | (refine CallT.p (p_l1Name _ ht) rfl rfl ?_; simp [Val.cells, w])
    | (refine BrT.mk (fun h => ?_) (fun h => ?_) <;> simp [h, Val.cells, w])
  all_goals (clear w ht hl hn; simp [plainB, *])
end Go.Proofs.YtbmoiajdknejnaaGreat

/- A value by its kind. -/
set_option linter.unusedVariables false
set_option linter.unusedSimpArgs false
set_option maxRecDepth 100000
namespace Go.Proofs.YtbmoiajdknejnaaGreat
open Go.Sh
variable {gl : Nat → Option D}
/-- It has the form of its kind. -/
def formB (k n : Int) (t : ByteArray) (ll : Nat) (ns : List ByteArray) : Bool := plainB k n t ll ns.length && (!decide (k = 5) || onceB ns)
/-- A value that has the form of its kind, as an item. -/
def itemIn (k n : Int) (t : ByteArray) (l : List Val) (ns : List ByteArray) : D :=
  if k = 0 then .ifc 281 (.agg [])
  else if k = 1 then .ifc 282 (dB (decide (n = 1)))
  else if k = 2 then .ifc 283 (dI n)
  else if k = 3 then .ifc 284 (dS t)
  else if k = 4 then .ifc 285 (valsD l)
  else if k = 5 then .ifc 287 (.agg [namesD ns, valsD l])
  else if k = 6 then .ifc 208 (dS t)
  else .ifc 209 (dS t)
def itemD (k n : Int) (t : ByteArray) (l : List Val) (ns : List ByteArray) : D := if formB k n t l.length ns = true then itemIn k n t l ns else .v .nilIface

theorem len0 (l : List Val) (ns : List ByteArray) : ((l.length : Int) + ns.length = 0) ↔ l = [] ∧ ns = [] := by
  rw [← List.length_eq_zero_iff, ← List.length_eq_zero_iff]
  omega

set_option maxHeartbeats 8000000 in
theorem p_itemOf (k n : Int) (t : ByteArray) (l : List Val) (ns : List ByteArray) (ht : t.size ≤ 4611686018427387904) (hl : l.length ≤ 4611686018427387904) (hn : NamesOk ns) : PCall Tryz.prog gl 172 [(Val.mk k n t l ns).d] (itemD k n t l ns) := by
  refine PCall.by_ (md := []) Tryz.func172 rfl (by kernel_rfl) (n := 171) Tryz.ntmps172 (by simp) (by decide) rfl ?_
  simp [Val.cells]
  repeat' first
    | (refine BrT.dec (fun h => ?_) (fun h => ?_) <;> simp [h, Val.cells])
    | (refine CallT.p (p_isName _ ht) rfl rfl ?_; simp [Val.cells])
    | (refine CallT.p (p_namesOnce _ hn) rfl rfl ?_; simp [Val.cells])
    | (refine CallT.p (p_namesOnce [] ⟨by simp, by simp⟩) rfl rfl ?_; simp [Val.cells])
    | (refine BrT.mk (fun h => ?_) (fun h => ?_) <;> simp [h, Val.cells])
  all_goals try (clear ht hl hn; simp [itemD, itemIn, formB, plainB, len0, *]; done)
  all_goals try (clear ht hl hn; simp [itemD, itemIn, formB, plainB, len0, *]; intros; omega)
end Go.Proofs.YtbmoiajdknejnaaGreat

/- Is a value ok, down to some depth: both ways of saying so. -/
set_option linter.unusedVariables false
set_option linter.unusedSimpArgs false
set_option maxRecDepth 100000
namespace Go.Proofs.YtbmoiajdknejnaaGreat
open Go.Sh
variable {gl : Nat → Option D}
mutual
def okB : Val → Int → Bool → Bool
  | .mk k n t l ns, deep, words => !decide (deep < 1) && plainB k n t l.length ns.length && !(!words && decide (5 < k)) && onceB ns && oksB l (deep - 1) words
def oksB : List Val → Int → Bool → Bool
  | [], _, _ => true
  | v :: r, deep, words => okB v deep words && oksB r deep words
end
/-- Value i of a list. -/
def vl (l : List Val) (i : Nat) : Val := l.getD i default
theorem oksB_all {d : Int} {w : Bool} : ∀ l : List Val, oksB l d w = allTo (fun i => okB (vl l i) d w) l.length
  | [] => by simp [oksB, allTo]
  | v :: r => by
    rw [oksB, oksB_all r, Bool.eq_iff_iff, Bool.and_eq_true, allTo_iff, allTo_iff]
    constructor
    · rintro ⟨h1, h2⟩ j hj
      cases j with
      | zero => exact h1
      | succ j => exact h2 j (by simpa using hj)
    · intro h
      exact ⟨h 0 (by simp), fun j hj => h (j + 1) (by simpa using hj)⟩
theorem val_at {l : List Val} {i : Nat} (h : i < l.length) : vl l i = l[i] := by
  unfold vl
  rw [List.getD_eq_getElem?_getD, List.getElem?_eq_getElem h, Option.getD_some]

set_option maxHeartbeats 4000000 in
theorem p_l1Ok (v : Val) (hv : WF v) (deep : Int) (words : Bool) (hd : -4611686018427387904 ≤ deep) (hd2 : deep ≤ 4611686018427387904) : PCall Tryz.prog gl 97 [v.d, dI deep, dB words] (dB (okB v deep words)) := by
  match v, hv with
  | .mk k n t l ns, .mk ht hn hl hwf =>
    have ih : ∀ i (hi : i < l.length) (deep : Int), -4611686018427387904 ≤ deep → deep ≤ 4611686018427387904 → PCall Tryz.prog gl 97 [l[i].d, dI deep, dB words] (dB (okB l[i] deep words)) := fun i hi deep a b =>
      have := List.sizeOf_lt_of_mem (List.getElem_mem hi)
      p_l1Ok l[i] (hwf _ (List.getElem_mem hi)) deep words a b
    refine PCall.by_ (md := []) Tryz.func97 rfl (by kernel_rfl) (n := 47) Tryz.ntmps97 (by simp) (by decide) rfl ?_
    have hnl := hn.1
    simp [Val.cells]
    repeat' first
      | (refine BrT.dec (fun h => ?_) (fun h => ?_) <;> simp [h, Val.cells])
      | (refine CallT.p (p_l1Plain k n t l ns ht hl hnl) rfl rfl ?_; simp [Val.cells])
      | (refine CallT.p (p_l1Once ns hn) rfl rfl ?_; simp [Val.cells])
      | (refine BrT.mk (fun h => ?_) (fun h => ?_) <;> simp [h, Val.cells])
    all_goals try (clear ih hwf hv hn ht hl hnl; simp [okB, *]; done)
    all_goals
      have hok : okB (.mk k n t l ns) deep words = oksB l (deep - 1) words := by clear ih hwf hv hn ht hl hnl; simp [okB, *]
      have hd1 : 1 ≤ deep := by omega
      have w1 : IntKind.i64.wrap (deep - 1) = deep - 1 := wrap64 (by omega) (by omega)
      refine LoopT.round (fun E S => ∃ i : Nat, i ≤ l.length ∧ E 1 = some (.d (dI deep)) ∧ E 2 = some (.d (dB words)) ∧ E 3 = some (.op 0 0) ∧ E 7 = some (.d (dI i)) ∧ S.B 0 = some [.d (dI k), .d (dI n), .d (dS t), .d (.ps (valsCells l) l.length), .d (namesD ns)] ∧ (∀ j, j < i → okB (vl l j) (deep - 1) words = true)) (upTo 7 l.length) ⟨0, by clear ih hwf hv hn ht hl hnl hok; simp [*]⟩ ?_
      rintro E S hk ⟨i, hi, h1, h2, h3, h7, hB, hp⟩
      have gn : S.n = 47 := by simpa using hk.n
      have hg : S.gl = gl := by simpa using hk.gl
      have w : IntKind.i64.wrap ((i : Int) + 1) = (i : Int) + 1 := wrap64 (by omega) (by omega)
      simp [h1, h2, h3, h7, hB, gn]
      refine BrT.dec (fun h => ?_) (fun h => ?_)
      · have hi2 : i < l.length := by omega
        have hlen := valsCells_len l
        have hfit : i * 5 + 5 ≤ l.length * 5 := by omega
        simp [h1, h2, h3, h7, hB, gn, hi2, hlen, hfit, valsCells_at, w1]
        refine CallT.p (ih i hi2 (deep - 1) (by omega) (by omega)) (by first | rfl | simp [hg]) rfl ?_
        simp [h1, h2, h3, h7, hB, gn]
        refine BrT.mk (fun hb => ?_) (fun hb => ?_)
        · simp [h1, h2, h3, h7, hB, gn, hb, w]
          exact ⟨⟨i + 1, by omega, rfl, next_all hp (by rw [val_at hi2]; exact hb)⟩, upTo_lt h7 (by simp) hi2⟩
        · have : oksB l (deep - 1) words = false := by rw [oksB_all, allTo_false hi2 (by rw [val_at hi2]; exact hb)]
          have fin := hok.trans this
          clear hok this
          simp [h1, h2, h3, h7, hB, gn, hb]
          first | (simpa [‹words = true›] using fin) | (simpa [‹words = false›] using fin)
      · have hi3 : i = l.length := by omega
        have : oksB l (deep - 1) words = true := by rw [oksB_all]; exact allTo_true (fun j hj => hp j (by omega))
        have fin := hok.trans this
        clear hok this
        simp [h1, h2, h3, h7, hB, gn]
        first | (simpa [‹words = true›] using fin) | (simpa [‹words = false›] using fin)
  termination_by SizeOf.sizeOf v
  decreasing_by
  simp_wf
  omega
end Go.Proofs.YtbmoiajdknejnaaGreat

/- The program's own way to say that a value is ok. -/
set_option linter.unusedVariables false
set_option linter.unusedSimpArgs false
set_option maxRecDepth 100000
namespace Go.Proofs.YtbmoiajdknejnaaGreat
open Go.Sh
variable {gl : Nat → Option D}
theorem p_nullWithin : PCall Tryz.prog gl 370 [.agg []] (.ps [] 0) := by
  refine PCall.by_ (md := []) Tryz.func370 rfl (by kernel_rfl) (n := 3) Tryz.ntmps370 (by simp) (by decide) rfl ?_
  simp
theorem p_boolWithin (b : Bool) : PCall Tryz.prog gl 371 [dB b] (.ps [] 0) := by
  refine PCall.by_ (md := []) Tryz.func371 rfl (by kernel_rfl) (n := 3) Tryz.ntmps371 (by simp) (by decide) rfl ?_
  simp
theorem p_numWithin (n : Int) : PCall Tryz.prog gl 372 [dI n] (.ps [] 0) := by
  refine PCall.by_ (md := []) Tryz.func372 rfl (by kernel_rfl) (n := 3) Tryz.ntmps372 (by simp) (by decide) rfl ?_
  simp
theorem p_textWithin (s : ByteArray) : PCall Tryz.prog gl 373 [dS s] (.ps [] 0) := by
  refine PCall.by_ (md := []) Tryz.func373 rfl (by kernel_rfl) (n := 3) Tryz.ntmps373 (by simp) (by decide) rfl ?_
  simp
theorem p_listWithin (l : List Val) : PCall Tryz.prog gl 374 [valsD l] (valsD l) := by
  refine PCall.by_ (md := []) Tryz.func374 rfl (by kernel_rfl) (n := 4) Tryz.ntmps374 (by simp) (by decide) rfl ?_
  simp
theorem p_treeWithin (ns : List ByteArray) (l : List Val) : PCall Tryz.prog gl 375 [.agg [namesD ns, valsD l]] (valsD l) := by
  refine PCall.by_ (md := []) Tryz.func375 rfl (by kernel_rfl) (n := 5) Tryz.ntmps375 (by simp) (by decide) rfl ?_
  simp

theorem plain_kind {k n : Int} {t : ByteArray} {ll ln : Nat} (h : plainB k n t ll ln = true) : k = 0 ∨ k = 1 ∨ k = 2 ∨ k = 3 ∨ k = 4 ∨ k = 5 ∨ k = 6 ∨ k = 7 := by
  by_cases h0 : k = 0; · exact .inl h0
  by_cases h1 : k = 1; · exact .inr (.inl h1)
  by_cases h2 : k = 2; · exact .inr (.inr (.inl h2))
  by_cases h3 : k = 3; · exact .inr (.inr (.inr (.inl h3)))
  by_cases h4 : k = 4; · exact .inr (.inr (.inr (.inr (.inl h4))))
  by_cases h5 : k = 5; · exact .inr (.inr (.inr (.inr (.inr (.inl h5)))))
  by_cases h6 : k = 6; · exact .inr (.inr (.inr (.inr (.inr (.inr (.inl h6))))))
  by_cases h7 : k = 7; · exact .inr (.inr (.inr (.inr (.inr (.inr (.inr h7))))))
  simp [plainB, h0, h1, h2, h3, h4, h5, h6, h7] at h

/-- What is within: behind the interface. -/
theorem p_within {k n : Int} {t : ByteArray} {l : List Val} {ns : List ByteArray} (hf : formB k n t l.length ns = true) (hk : ¬ 5 < k) :
    ∃ T x g, itemD k n t l ns = .ifc T x ∧ T ≠ 208 ∧ T ≠ 209 ∧ methOf Tryz.prog T "loop.example/pergola/impl.within" = some g ∧ PCall Tryz.prog gl g [x] (valsD l) := by
  have hp : plainB k n t l.length ns.length = true := by simp only [formB, Bool.and_eq_true] at hf; exact hf.1
  unfold itemD
  rw [if_pos hf]
  have nil : ∀ (hs : ((l.length : Int) + ns.length = 0)), valsD l = .ps [] 0 := fun hs => by
    obtain ⟨rfl, _⟩ := (len0 l ns).1 hs
    rfl
  rcases plain_kind hp with rfl | rfl | rfl | rfl | rfl | rfl | rfl | rfl
  · have := nil (by simp [plainB] at hp; exact_mod_cast hp.2)
    rw [this]
    exact ⟨281, .agg [], 370, rfl, by decide, by decide, by kernel_rfl, p_nullWithin⟩
  · have := nil (by simp [plainB] at hp; exact_mod_cast hp.2)
    rw [this]
    exact ⟨282, _, 371, rfl, by decide, by decide, by kernel_rfl, p_boolWithin _⟩
  · have := nil (by simp [plainB] at hp; exact_mod_cast hp.2)
    rw [this]
    exact ⟨283, _, 372, rfl, by decide, by decide, by kernel_rfl, p_numWithin _⟩
  · have := nil (by simp [plainB] at hp; exact_mod_cast hp.2)
    rw [this]
    exact ⟨284, _, 373, rfl, by decide, by decide, by kernel_rfl, p_textWithin _⟩
  · exact ⟨285, _, 374, rfl, by decide, by decide, by kernel_rfl, p_listWithin l⟩
  · exact ⟨287, _, 375, rfl, by decide, by decide, by kernel_rfl, p_treeWithin ns l⟩
  · omega
  · omega
end Go.Proofs.YtbmoiajdknejnaaGreat

/- The program's own way to say that a value is ok is the other way. -/
set_option linter.unusedVariables false
set_option linter.unusedSimpArgs false
set_option maxRecDepth 100000
namespace Go.Proofs.YtbmoiajdknejnaaGreat
open Go.Sh
variable {gl : Nat → Option D}
theorem onceB_nil : onceB [] = true := rfl
theorem plain_names {k n : Int} {t : ByteArray} {l : List Val} {ns : List ByteArray} (h : plainB k n t l.length ns.length = true) (h5 : k ≠ 5) : ns = [] := by
  have hs : ((l.length : Int) + ns.length = 0) → ns = [] := fun h => ((len0 l ns).1 h).2
  rcases plain_kind h with rfl | rfl | rfl | rfl | rfl | rfl | rfl | rfl
  · exact hs (by simp [plainB] at h; exact_mod_cast h.2)
  · exact hs (by simp [plainB] at h; exact_mod_cast h.2)
  · exact hs (by simp [plainB] at h; exact_mod_cast h.2)
  · exact hs (by simp [plainB] at h; exact_mod_cast h.2)
  · simp [plainB] at h; exact h.1.2
  · exact absurd rfl h5
  · exact hs (by simp [plainB] at h; exact_mod_cast h.2)
  · exact hs (by simp [plainB] at h; exact_mod_cast h.2)
theorem form_eq {k n : Int} {t : ByteArray} {l : List Val} {ns : List ByteArray} : formB k n t l.length ns = (plainB k n t l.length ns.length && onceB ns) := by
  unfold formB
  cases hp : plainB k n t l.length ns.length with
  | false => rfl
  | true =>
    by_cases h5 : k = 5
    · simp [h5]
    · have := plain_names hp h5
      subst this
      simp [h5, onceB_nil]
theorem ok_form {k n : Int} {t : ByteArray} {l : List Val} {ns : List ByteArray} {deep : Int} {words : Bool} (h : formB k n t l.length ns = false) : okB (.mk k n t l ns) deep words = false := by
  rw [form_eq, Bool.and_eq_false_iff] at h
  rcases h with h | h <;> simp [okB, h]
theorem ok_in {k n : Int} {t : ByteArray} {l : List Val} {ns : List ByteArray} {deep : Int} {words : Bool} (h : formB k n t l.length ns = true) (hd : ¬ deep < 1) (hk : ¬ 5 < k) : okB (.mk k n t l ns) deep words = oksB l (deep - 1) words := by
  rw [form_eq, Bool.and_eq_true] at h
  simp [okB, h, hd, hk]
theorem ok_word {k n : Int} {t : ByteArray} {l : List Val} {ns : List ByteArray} {deep : Int} {words : Bool} (h : formB k n t l.length ns = true) (hd : ¬ deep < 1) (hk : 5 < k) : okB (.mk k n t l ns) deep words = words ∧ (k = 6 ∨ k = 7) := by
  rw [form_eq, Bool.and_eq_true] at h
  have hk2 : k = 6 ∨ k = 7 := by
    rcases plain_kind h.1 with rfl | rfl | rfl | rfl | rfl | rfl | rfl | rfl <;> first | omega | simp
  have hl : l = [] := by
    have hp := h.1
    rcases hk2 with rfl | rfl
    · exact ((len0 l ns).1 (by simp [plainB] at hp; exact_mod_cast hp.2)).1
    · exact ((len0 l ns).1 (by simp [plainB] at hp; exact_mod_cast hp.2)).1
  subst hl
  refine ⟨?_, hk2⟩
  cases words <;> simp [okB, h, hd, hk, oksB] <;> (try exact h.1)

set_option maxHeartbeats 4000000 in
theorem p_fitsIn (v : Val) (hv : WF v) (most : Int) (free : Bool) (hd : -4611686018427387904 ≤ most) (hd2 : most ≤ 4611686018427387904) : PCall Tryz.prog gl 77 [v.d, dI most, dB free] (dB (okB v most free)) := by
  match v, hv with
  | .mk k n t l ns, .mk ht hn hl hwf =>
    have ih : ∀ i (hi : i < l.length) (deep : Int), -4611686018427387904 ≤ deep → deep ≤ 4611686018427387904 → PCall Tryz.prog gl 77 [l[i].d, dI deep, dB free] (dB (okB l[i] deep free)) := fun i hi deep a b =>
      have := List.sizeOf_lt_of_mem (List.getElem_mem hi)
      p_fitsIn l[i] (hwf _ (List.getElem_mem hi)) deep free a b
    refine PCall.by_ (md := []) Tryz.func77 rfl (by kernel_rfl) (n := 38) Tryz.ntmps77 (by simp) (by decide) rfl ?_
    simp [Val.cells]
    refine BrT.dec (fun h => ?_) (fun h => ?_)
    · simp [h, okB]
    simp [h, Val.cells]
    have hc := p_itemOf (gl := gl) k n t l ns ht hl hn
    by_cases hf : formB k n t l.length ns = true
    case neg =>
      have hi : itemD k n t l ns = .v .nilIface := if_neg hf
      rw [hi] at hc
      refine CallT.p hc rfl rfl ?_
      simp [ok_form (deep := most) (words := free) (by simpa using hf)]
    by_cases hk : 5 < k
    case pos =>
      obtain ⟨h1, h2⟩ := ok_word (words := free) hf h hk
      rcases h2 with rfl | rfl
      · have hi : itemD 6 n t l ns = .ifc 208 (dS t) := if_pos hf
        rw [hi] at hc
        refine CallT.p hc rfl rfl ?_
        simp [h1]
      · have hi : itemD 7 n t l ns = .ifc 209 (dS t) := if_pos hf
        rw [hi] at hc
        refine CallT.p hc rfl rfl ?_
        simp [h1]
    obtain ⟨T, x, g, hi, hT1, hT2, hm, hg⟩ := p_within (gl := gl) hf hk
    rw [hi] at hc
    refine CallT.p hc rfl rfl ?_
    simp [hT1, hT2]
    refine InvT.p hg (by simp) hm rfl ?_
    simp
    have hok := ok_in (words := free) hf h hk
    have w1 : IntKind.i64.wrap (most - 1) = most - 1 := wrap64 (by omega) (by omega)
    refine LoopT.round (fun E S => ∃ i : Nat, i ≤ l.length ∧ E 1 = some (.d (dI most)) ∧ E 2 = some (.d (dB free)) ∧ E 25 = some (.d (valsD l)) ∧ E 26 = some (.d (dI l.length)) ∧ E 27 = some (.d (dI i)) ∧ (∀ j, j < i → okB (vl l j) (most - 1) free = true)) (upTo 27 l.length) ⟨0, by simp⟩ ?_
    rintro E S hk ⟨i, hi, h1, h2, h25, h26, h27, hp⟩
    have gn : S.n = 38 := by simpa using hk.n
    have hgl : S.gl = gl := by simpa using hk.gl
    have w : IntKind.i64.wrap ((i : Int) + 1) = (i : Int) + 1 := wrap64 (by omega) (by omega)
    simp [h1, h2, h25, h26, h27, gn]
    refine BrT.dec (fun h => ?_) (fun h => ?_)
    · have hi2 : i < l.length := by omega
      have hlen := valsCells_len l
      have hfit : i * 5 + 5 ≤ l.length * 5 := by omega
      simp [h1, h2, h25, h26, h27, gn, hi2, hlen, hfit, valsCells_at, w1, cells_len]
      refine CallT.p (ih i hi2 (most - 1) (by omega) (by omega)) (by first | rfl | simp [hgl]) (by simp) ?_
      simp [h1, h2, h25, h26, h27, gn]
      refine BrT.mk (fun hb => ?_) (fun hb => ?_)
      · simp [h1, h2, h25, h26, h27, gn, hb, w]
        exact ⟨⟨i + 1, by omega, rfl, next_all hp (by rw [val_at hi2]; exact hb)⟩, upTo_lt h27 (by simp) hi2⟩
      · have : oksB l (most - 1) free = false := by rw [oksB_all, allTo_false hi2 (by rw [val_at hi2]; exact hb)]
        simp [h1, h2, h25, h26, h27, gn, hb, hok, this]
    · have hi3 : i = l.length := by omega
      have : oksB l (most - 1) free = true := by rw [oksB_all]; exact allTo_true (fun j hj => hp j (by omega))
      simp [h1, h2, h25, h26, h27, gn, hok, this]
  termination_by SizeOf.sizeOf v
  decreasing_by
  simp_wf
  omega
end Go.Proofs.YtbmoiajdknejnaaGreat

/- Values compared with themselves, their sizes, their copies. -/
set_option linter.unusedVariables false
set_option linter.unusedSimpArgs false
set_option maxRecDepth 100000
namespace Go.Proofs.YtbmoiajdknejnaaGreat
open Go.Sh
variable {gl : Nat → Option D}
set_option maxHeartbeats 1000000 in
theorem p_eqValueS_of (l : List Val) (hl : l.length ≤ 4611686018427387904) (ih : ∀ i (h : i < l.length), PCall Tryz.prog gl 55 [l[i].d, l[i].d] (dB true)) : PCall Tryz.prog gl 143 [valsD l, valsD l] (dB true) := by
  refine PCall.by_ (md := []) Tryz.func143 rfl (by kernel_rfl) (n := 27) Tryz.ntmps143 (by simp) (by decide) rfl ?_
  simp
  refine LoopT.round (fun E S => ∃ i : Nat, i ≤ l.length ∧ E 0 = some (.d (valsD l)) ∧ E 1 = some (.d (valsD l)) ∧ E 5 = some (.d (dI i))) (upTo 5 l.length) ⟨0, by simp⟩ ?_
  rintro E S hk ⟨i, hi, h0, h1, h5⟩
  have hn : S.n = 27 := by simpa using hk.n
  have hg : S.gl = gl := by simpa using hk.gl
  have w : IntKind.i64.wrap ((i : Int) + 1) = (i : Int) + 1 := wrap64 (by omega) (by omega)
  simp [h0, h1, h5, hn]
  refine BrT.dec (fun h => ?_) (fun h => ?_)
  · have hi2 : i < l.length := by omega
    have hlen := valsCells_len l
    have hfit : i * 5 + 5 ≤ l.length * 5 := by omega
    simp [h0, h1, h5, hn, hi2, hlen, hfit, valsCells_at]
    refine ⟨DrawT.mk (by kernel_rfl), ?_⟩
    refine CallT.p (ih i hi2) (by first | rfl | simp [hg]) rfl ?_
    simp [h0, h1, h5, hn, w]
    exact ⟨⟨i + 1, by omega, rfl⟩, upTo_lt h5 (by simp) hi2⟩
  · simp [h0, h1, h5, hn]

set_option maxHeartbeats 1000000 in
theorem p_eqValue (v : Val) (hv : WF v) : PCall Tryz.prog gl 55 [v.d, v.d] (dB true) := by
  match v, hv with
  | .mk k n t l ns, .mk ht hn hl hwf =>
    have hs := p_eqValueS_of (gl := gl) l hl (fun i hi =>
      have := List.sizeOf_lt_of_mem (List.getElem_mem hi)
      p_eqValue l[i] (hwf _ (List.getElem_mem hi)))
    refine PCall.by_ (md := []) Tryz.func55 rfl (by kernel_rfl) (n := 32) Tryz.ntmps55 (by simp) (by decide) rfl ?_
    have hnl := hn.1
    simp [Val.cells]
    refine CallT.p hs rfl rfl ?_
    simp [Val.cells]
    refine CallT.p (p_eqStringS ns (by omega)) rfl rfl ?_
    simp
  termination_by SizeOf.sizeOf v
  decreasing_by
  simp_wf
  omega

/-! ### sizes -/
mutual
def szV : Val → Int → Int
  | .mk _ _ t l ns, left => if left - t.size < 0 then -1 else if szVs l (left - t.size) < 0 then -1 else if szNames ns (szVs l (left - t.size)) < 0 then -1 else szNames ns (szVs l (left - t.size))
def szVs : List Val → Int → Int
  | l, left => if left - l.length < 0 then -1 else szVgo l (left - l.length)
def szVgo : List Val → Int → Int
  | [], r => r
  | v :: l, r => if szV v r < 0 then -1 else szVgo l (szV v r)
end
end Go.Proofs.YtbmoiajdknejnaaGreat

/- Sizes of values. -/
set_option linter.unusedVariables false
set_option linter.unusedSimpArgs false
set_option maxRecDepth 100000
namespace Go.Proofs.YtbmoiajdknejnaaGreat
open Go.Sh
variable {gl : Nat → Option D}
theorem szGo_le : ∀ (l : List ByteArray) (r : Int), -1 ≤ r → -1 ≤ szGo l r ∧ szGo l r ≤ r
  | [], r, h => ⟨h, Int.le_refl _⟩
  | s :: t, r, h => by
    simp only [szGo]
    split
    · omega
    · have := szGo_le t (r - s.size) (by omega)
      omega
theorem szNames_le (l : List ByteArray) (r : Int) (h : -1 ≤ r) : -1 ≤ szNames l r ∧ szNames l r ≤ r := by
  unfold szNames
  split
  · omega
  · have := szGo_le l (r - l.length) (by omega)
    omega
mutual
theorem szV_le : ∀ (v : Val) (r : Int), -1 ≤ r → -1 ≤ szV v r ∧ szV v r ≤ r
  | .mk k n t l ns, r, h => by
    simp only [szV]
    split
    · omega
    · have h1 := szVs_le l (r - t.size) (by omega)
      split
      · omega
      · have h2 := szNames_le ns (szVs l (r - t.size)) (by omega)
        split <;> omega
theorem szVs_le : ∀ (l : List Val) (r : Int), -1 ≤ r → -1 ≤ szVs l r ∧ szVs l r ≤ r
  | l, r, h => by
    simp only [szVs]
    split
    · omega
    · have := szVgo_le l (r - l.length) (by omega)
      omega
theorem szVgo_le : ∀ (l : List Val) (r : Int), -1 ≤ r → -1 ≤ szVgo l r ∧ szVgo l r ≤ r
  | [], r, h => by simp only [szVgo]; omega
  | v :: l, r, h => by
    simp only [szVgo]
    have h1 := szV_le v r h
    split
    · omega
    · have := szVgo_le l (szV v r) (by omega)
      omega
end

set_option maxHeartbeats 1000000 in
theorem p_szValueS_of (l : List Val) (hl : l.length ≤ 4611686018427387904) (ih : ∀ i (h : i < l.length) (left : Int), 0 ≤ left → left ≤ 4611686018427387904 → PCall Tryz.prog gl 50 [l[i].d, dI left] (dI (szV l[i] left))) (left : Int) (h0 : 0 ≤ left) (hb : left ≤ 4611686018427387904) :
    PCall Tryz.prog gl 127 [valsD l, dI left] (dI (szVs l left)) := by
  refine PCall.by_ (md := []) Tryz.func127 rfl (by kernel_rfl) (n := 27) Tryz.ntmps127 (by simp) (by decide) rfl ?_
  have w0 : IntKind.i64.wrap (left - l.length) = left - l.length := wrap64 (by omega) (by omega)
  simp [w0]
  refine BrT.dec (fun h => ?_) (fun h => ?_)
  · have : szVs l left = -1 := by rw [szVs, if_pos (by omega)]
    simp [w0, h, this]
  have hsz : szVs l left = szVgo l (left - l.length) := by rw [szVs, if_neg (by omega)]
  simp [w0, h]
  refine LoopT.round (fun E S => ∃ (i : Nat) (r : Int), i ≤ l.length ∧ 0 ≤ r ∧ r ≤ 4611686018427387904 ∧ E 0 = some (.d (valsD l)) ∧ E 1 = some (.d (dI r)) ∧ E 5 = some (.d (dI i)) ∧ szVgo (l.drop i) r = szVs l left) (upTo 5 l.length) ⟨0, left - l.length, by simp [hsz]; omega⟩ ?_
  rintro E S hk ⟨i, r, hi, hr0, hr1, h0, h1, h5, hp⟩
  have hn : S.n = 27 := by simpa using hk.n
  have hg : S.gl = gl := by simpa using hk.gl
  have w : IntKind.i64.wrap ((i : Int) + 1) = (i : Int) + 1 := wrap64 (by omega) (by omega)
  simp [h0, h1, h5, hn]
  refine BrT.dec (fun h => ?_) (fun h => ?_)
  · have hi2 : i < l.length := by omega
    have hlen := valsCells_len l
    have hfit : i * 5 + 5 ≤ l.length * 5 := by omega
    have hd : szVgo (l.drop i) r = if szV l[i] r < 0 then -1 else szVgo (l.drop (i + 1)) (szV l[i] r) := by
      rw [List.drop_eq_getElem_cons hi2]; simp only [szVgo]
    have hle := szV_le l[i] r (by omega)
    simp [h0, h1, h5, hn, hi2, hlen, hfit, valsCells_at]
    refine CallT.p (ih i hi2 r hr0 hr1) (by first | rfl | simp [hg]) rfl ?_
    simp [h0, h1, h5, hn]
    refine BrT.dec (fun he => ?_) (fun he => ?_)
    · rw [hd, if_pos he] at hp
      simp [h0, h1, h5, hn, he, hp]
    · rw [hd, if_neg he] at hp
      simp [h0, h1, h5, hn, w, he]
      exact ⟨⟨i + 1, by omega, szV l[i] r, by omega, by omega, rfl, by omega, hp⟩, upTo_lt h5 (by simp) hi2⟩
  · rw [List.drop_eq_nil_of_le (by omega)] at hp
    simp only [szVgo] at hp
    simp [h0, h1, h5, hn, ← hp]

set_option maxHeartbeats 1000000 in
theorem p_szValue (v : Val) (hv : WF v) (left : Int) (h0 : 0 ≤ left) (hb : left ≤ 4611686018427387904) : PCall Tryz.prog gl 50 [v.d, dI left] (dI (szV v left)) := by
  match v, hv with
  | .mk k n t l ns, .mk ht hn hl hwf =>
    have hs := p_szValueS_of (gl := gl) l hl (fun i hi left a b =>
      have := List.sizeOf_lt_of_mem (List.getElem_mem hi)
      p_szValue l[i] (hwf _ (List.getElem_mem hi)) left a b)
    refine PCall.by_ (md := []) Tryz.func50 rfl (by kernel_rfl) (n := 25) Tryz.ntmps50 (by simp) (by decide) rfl ?_
    have w0 : IntKind.i64.wrap (left - t.size) = left - t.size := wrap64 (by omega) (by omega)
    simp [Val.cells, w0]
    refine BrT.dec (fun h => ?_) (fun h => ?_)
    · simp [h, w0, szV] <;> omega
    simp [h, w0, Val.cells]
    refine CallT.p (hs (left - t.size) (by omega) (by omega)) rfl rfl ?_
    have l1 := szVs_le l (left - t.size) (by omega)
    simp [Val.cells, w0]
    refine BrT.dec (fun h1 => ?_) (fun h1 => ?_)
    · simp [h1, w0, szV] <;> omega
    simp [h1, w0, Val.cells]
    refine CallT.p (p_szStringS ns (szVs l (left - t.size)) hn (by omega) (by omega)) rfl rfl ?_
    simp [Val.cells, w0]
    refine BrT.dec (fun h2 => ?_) (fun h2 => ?_)
    · simp [h2, h1, w0, szV] <;> omega
    · simp [h2, h1, w0, szV] <;> omega
  termination_by SizeOf.sizeOf v
  decreasing_by
  simp_wf
  omega
end Go.Proofs.YtbmoiajdknejnaaGreat

/- Copies of values. -/
set_option linter.unusedVariables false
set_option linter.unusedSimpArgs false
set_option maxRecDepth 100000
namespace Go.Proofs.YtbmoiajdknejnaaGreat
open Go.Sh
variable {gl : Nat → Option D}
/-- Not longer than the laws let in. -/
inductive Small : Val → Prop
  | mk {k n : Int} {t : ByteArray} {l : List Val} {ns : List ByteArray} (ht : t.size ≤ 1048576) (hn : ns.length ≤ 1048576) (hns : ∀ s ∈ ns, s.size ≤ 1048576) (hl : l.length ≤ 1048576) (h : ∀ v ∈ l, Small v) : Small (.mk k n t l ns)

theorem szGo_small : ∀ (l : List ByteArray) (r : Int), r ≤ 1048576 → 0 ≤ szGo l r → ∀ s ∈ l, s.size ≤ 1048576
  | [], r, _, _, s, hs => by simp at hs
  | x :: t, r, hr, h, s, hs => by
    simp only [szGo] at h
    split at h
    · omega
    · rename_i hx
      have := szGo_small t (r - x.size) (by omega) h
      rcases List.mem_cons.1 hs with rfl | hs
      · have := (szGo_le t (r - s.size) (by omega)).2; omega
      · exact this s hs
theorem szNames_small {l : List ByteArray} {r : Int} (hr : r ≤ 1048576) (h : 0 ≤ szNames l r) : l.length ≤ 1048576 ∧ ∀ s ∈ l, s.size ≤ 1048576 := by
  unfold szNames at h
  split at h
  · omega
  · rename_i hx
    have := (szGo_le l (r - l.length) (by omega)).2
    exact ⟨by omega, szGo_small l _ (by omega) h⟩
mutual
theorem szV_small : ∀ (v : Val) (r : Int), r ≤ 1048576 → 0 ≤ szV v r → Small v
  | .mk k n t l ns, r, hr, h => by
    simp only [szV] at h
    split at h
    · omega
    · rename_i h1
      split at h
      · omega
      · rename_i h2
        split at h
        · omega
        · rename_i h3
          have a1 := szVs_le l (r - t.size) (by omega)
          have a2 := szVs_small l (r - t.size) (by omega) (by omega)
          have a3 := szNames_small (l := ns) (r := szVs l (r - t.size)) (by omega) h
          exact .mk (by omega) a3.1 a3.2 a2.1 a2.2
theorem szVs_small : ∀ (l : List Val) (r : Int), r ≤ 1048576 → 0 ≤ szVs l r → l.length ≤ 1048576 ∧ ∀ v ∈ l, Small v
  | l, r, hr, h => by
    simp only [szVs] at h
    split at h
    · omega
    · rename_i h1
      have a1 := szVgo_le l (r - l.length) (by omega)
      exact ⟨by omega, szVgo_small l (r - l.length) (by omega) (by omega) h⟩
theorem szVgo_small : ∀ (l : List Val) (r : Int), -1 ≤ r → r ≤ 1048576 → 0 ≤ szVgo l r → ∀ v ∈ l, Small v
  | [], r, a0, hr, h => fun v hv => by simp at hv
  | x :: l, r, a0, hr, h => fun v hv => by
    simp only [szVgo] at h
    split at h
    · omega
    · rename_i h1
      have a1 := szV_le x r a0
      rcases List.mem_cons.1 hv with e | hv
      · rw [e]; exact szV_small x r hr (by omega)
      · exact szVgo_small l (szV x r) (by omega) (by omega) h v hv
end

/-! ### copies -/
abbrev zV : List SV := [.d (dI 0), .d (dI 0), .d (dS ⟨#[]⟩), .fl [] 0, .fl [] 0]
abbrev sV (v : Val) : List SV := v.cells.map .d
theorem sV_len (v : Val) : (sV v).length = 5 := by rw [List.length_map, cells_len]
theorem sV_row (l : List Val) : l.flatMap sV = (valsCells l).map .d := by
  rw [valsCells_row]
  induction l with
  | nil => rfl
  | cons v r ih => simp [ih]
theorem madeS_zV (n : Nat) : madeS zV 5 n = (List.replicate n zV).flatten := madeS_row zV n
set_option maxHeartbeats 1000000 in
theorem p_toValueS_of (l : List Val) (hl : l.length ≤ 1048576) (ih : ∀ i (h : i < l.length), PCall Tryz.prog gl 53 [l[i].d] l[i].d) : PCall Tryz.prog gl 135 [valsD l] (valsD l) := by
  refine PCall.by_ (md := []) Tryz.func135 rfl (by kernel_rfl) (n := 23) Tryz.ntmps135 (by simp) (by decide) rfl ?_
  simp
  refine ⟨by omega, ?_⟩
  refine LoopT.round (fun E S => ∃ i : Nat, i ≤ l.length ∧ E 0 = some (.d (valsD l)) ∧ E 3 = some (.os 3 0 l.length) ∧ E 4 = some (.d (dI i)) ∧ S.B 3 = some (filled sV zV l i)) (upTo 4 l.length) ⟨0, by simp [filled_none, madeS_zV]⟩ ?_
  rintro E S hk ⟨i, hi, h0, h3, h4, hB⟩
  have hn : S.n = 23 := by simpa using hk.n
  have hg : S.gl = gl := by simpa using hk.gl
  have w : IntKind.i64.wrap ((i : Int) + 1) = (i : Int) + 1 := wrap64 (by omega) (by omega)
  simp [h0, h3, h4, hn]
  refine BrT.dec (fun h => ?_) (fun h => ?_)
  · have hi2 : i < l.length := by omega
    have hlen := valsCells_len l
    have hfit : i * 5 + 5 ≤ l.length * 5 := by omega
    have hflen := filled_len (enc := sV) (z := zV) sV_len rfl l hi
    have hnext := filled_next (enc := sV) (z := zV) sV_len rfl l hi2
    simp [h0, h3, h4, hn, hi2, hlen, hfit, valsCells_at]
    refine CallT.p (ih i hi2) (by first | rfl | simp [hg]) rfl ?_
    simp [h0, h3, h4, hn, hi2, hB, w, hflen, hfit, cells_len]
    refine ⟨⟨i + 1, by omega, rfl, ?_⟩, upTo_lt h4 (by simp) hi2⟩
    rw [← hnext]
    simp
  · have hi3 : i = l.length := by omega
    subst hi3
    rw [filled_all, sV_row] at hB
    simp [h0, h3, h4, hn, hB]
set_option maxHeartbeats 1000000 in
theorem p_toValue (v : Val) (hv : Small v) : PCall Tryz.prog gl 53 [v.d] v.d := by
  match v, hv with
  | .mk k n t l ns, .mk ht hn hns hl hwf =>
    have hs := p_toValueS_of (gl := gl) l hl (fun i hi =>
      have := List.sizeOf_lt_of_mem (List.getElem_mem hi)
      p_toValue l[i] (hwf _ (List.getElem_mem hi)))
    refine PCall.by_ (md := []) Tryz.func53 rfl (by kernel_rfl) (n := 22) Tryz.ntmps53 (by simp) (by decide) rfl ?_
    simp [Val.cells]
    refine CallT.p hs rfl rfl ?_
    simp [Val.cells]
    refine CallT.p (p_toStringS ns hn) rfl rfl ?_
    simp [Val.cells]
  termination_by SizeOf.sizeOf v
  decreasing_by
  simp_wf
  omega
theorem small_wf {v : Val} (h : Small v) : WF v := by
  match v, h with
  | .mk k n t l ns, .mk ht hn hns hl h =>
    exact .mk (by omega) ⟨by omega, fun s hs => by have := hns s hs; omega⟩ (by omega) fun x hx => small_wf (h x hx)
  termination_by SizeOf.sizeOf v
  decreasing_by
    have := List.sizeOf_lt_of_mem hx
    simp; omega
end Go.Proofs.YtbmoiajdknejnaaGreat

/- Which inputs need which: steps, rounds, and what is needed. Plain. -/
set_option linter.unusedVariables false
set_option linter.unusedSimpArgs false
set_option maxRecDepth 100000
namespace Go.Proofs.YtbmoiajdknejnaaGreat
open Go.Sh
/-- At least one step. -/
inductive Far (nx : ByteArray → List ByteArray) : ByteArray → ByteArray → Prop
  | one {x y : ByteArray} (h : y ∈ nx x) : Far nx x y
  | more {x y z : ByteArray} (h : y ∈ nx x) (k : Far nx y z) : Far nx x z
theorem Far.trans {nx : ByteArray → List ByteArray} {x y z : ByteArray} (h : Far nx x y) (k : Far nx y z) : Far nx x z := by
  induction h with
  | one h => exact .more h k
  | more h _ ih => exact .more h (ih k)
theorem nodup_len : ∀ {l m : List ByteArray}, l.Nodup → (∀ x ∈ l, x ∈ m) → l.length ≤ m.length
  | [], m, _, _ => Nat.zero_le _
  | x :: r, m, hd, hs => by
    have hx := hs x List.mem_cons_self
    rw [List.nodup_cons] at hd
    obtain ⟨a, b, rfl⟩ := List.append_of_mem hx
    have ih := nodup_len (l := r) (m := a ++ b) hd.2 fun y hy => by
      have := hs y (List.mem_cons_of_mem _ hy)
      have hne : y ≠ x := by rintro rfl; exact hd.1 hy
      simpa [hne] using this
    simp at ih ⊢
    omega
/-- So many steps can be gone. -/
def stepsB (nx : ByteArray → List ByteArray) (ok : ByteArray → Bool) : Nat → ByteArray → Bool
  | 0, x => ok x
  | m + 1, x => ok x && (nx x).any (stepsB nx ok m)
section
variable {nx : ByteArray → List ByteArray} {ok : ByteArray → Bool} {U : List ByteArray}
/-- What is known, and all that is needed. -/
def needsG (nx : ByteArray → List ByteArray) : Nat → ByteArray → List ByteArray → List ByteArray
  | 0, _, k => k
  | n + 1, x, k => (nx x).foldl (fun k y => if memB y k = true then k else needsG nx n y (k ++ [y])) k
structure KnownIn (U k : List ByteArray) : Prop where
  nodup : k.Nodup
  sub : ∀ y ∈ k, y ∈ U
/-- What has become of k, from x on, is r. -/
structure Grew (nx : ByteArray → List ByteArray) (U : List ByteArray) (x : ByteArray) (k r : List ByteArray) : Prop where
  inv : KnownIn U r
  sub : ∀ y ∈ k, y ∈ r
  len : k.length ≤ r.length
  shut : ∀ y ∈ r, ¬ y ∈ k → ∀ z ∈ nx y, z ∈ r
  far : ∀ y ∈ r, ¬ y ∈ k → Far nx x y
theorem KnownIn.snoc {k : List ByteArray} {y : ByteArray} (h : KnownIn U k) (hy : y ∈ U) (hn : ¬ y ∈ k) : KnownIn U (k ++ [y]) := by
  refine ⟨?_, fun z hz => ?_⟩
  · rw [List.nodup_append]
    refine ⟨h.nodup, by simp, fun a ha b hb e => ?_⟩
    simp at hb
    exact hn (by rw [← hb, ← e]; exact ha)
  · rcases List.mem_append.1 hz with hz | hz
    · exact h.sub z hz
    · simp at hz; exact hz ▸ hy
theorem grew_fold (n : Nat) (x : ByteArray) (k : List ByteArray) (ih : ∀ y k', KnownIn U k' → U.length < n + k'.length → Grew nx U y k' (needsG nx n y k') ∧ ∀ z ∈ nx y, z ∈ needsG nx n y k')
    (hl : U.length < n + 1 + k.length) : ∀ (s : List ByteArray) (k' : List ByteArray), (∀ y ∈ s, y ∈ nx x ∧ y ∈ U) → Grew nx U x k k' →
      Grew nx U x k (s.foldl (fun k y => if memB y k = true then k else needsG nx n y (k ++ [y])) k') ∧ (∀ y ∈ s, y ∈ s.foldl (fun k y => if memB y k = true then k else needsG nx n y (k ++ [y])) k') ∧ ∀ y ∈ k', y ∈ s.foldl (fun k y => if memB y k = true then k else needsG nx n y (k ++ [y])) k'
  | [], k', _, h => ⟨h, fun y hy => by simp at hy, fun y hy => hy⟩
  | y :: s, k', hs, h => by
    have hy := hs y List.mem_cons_self
    rw [List.foldl_cons]
    by_cases hm : memB y k' = true
    · rw [if_pos hm]
      obtain ⟨h1, h2, h3⟩ := grew_fold n x k ih hl s k' (fun z hz => hs z (List.mem_cons_of_mem _ hz)) h
      refine ⟨h1, fun z hz => ?_, h3⟩
      rcases List.mem_cons.1 hz with rfl | hz
      · exact h3 _ (memB_iff.1 hm)
      · exact h2 z hz
    · rw [if_neg hm]
      have hm : ¬ y ∈ k' := fun e => hm (memB_iff.2 e)
      have hK := h.inv.snoc hy.2 hm
      have hle := h.len
      obtain ⟨g, gs⟩ := ih y (k' ++ [y]) hK (by simp; omega)
      have hg : Grew nx U x k (needsG nx n y (k' ++ [y])) := by
        refine ⟨g.inv, fun z hz => g.sub z (List.mem_append_left _ (h.sub z hz)), ?_, fun z hz hn w hw => ?_, fun z hz hn => ?_⟩
        · have := g.len; simp at this; omega
        · by_cases hzk : z ∈ k'
          · exact g.sub w (List.mem_append_left _ (h.shut z hzk hn w hw))
          · by_cases hzy : z = y
            · subst hzy; exact gs w hw
            · exact g.shut z hz (by simp [hzk, hzy]) w hw
        · by_cases hzk : z ∈ k'
          · exact h.far z hzk hn
          · by_cases hzy : z = y
            · subst hzy; exact .one hy.1
            · exact .more hy.1 (g.far z hz (by simp [hzk, hzy]))
      obtain ⟨h1, h2, h3⟩ := grew_fold n x k ih hl s _ (fun z hz => hs z (List.mem_cons_of_mem _ hz)) hg
      refine ⟨h1, fun z hz => ?_, fun z hz => h3 z (g.sub z (List.mem_append_left _ hz))⟩
      rcases List.mem_cons.1 hz with rfl | hz
      · exact h3 _ (g.sub _ (by simp))
      · exact h2 z hz
theorem KnownIn.self {k : List ByteArray} {x : ByteArray} (h : KnownIn U k) : Grew nx U x k k := ⟨h, fun _ h => h, Nat.le_refl _, fun y h n => absurd h n, fun y h n => absurd h n⟩
theorem needs_grew (hnx : ∀ x y, y ∈ nx x → y ∈ U) : ∀ (n : Nat) (x : ByteArray) (k : List ByteArray), KnownIn U k → U.length < n + k.length → Grew nx U x k (needsG nx n x k) ∧ ∀ z ∈ nx x, z ∈ needsG nx n x k
  | 0, x, k, h, hl => by have := nodup_len h.nodup h.sub; omega
  | n + 1, x, k, h, hl => by
    have := grew_fold (nx := nx) (U := U) n x k (needs_grew hnx n) hl (nx x) k (fun y hy => ⟨hy, hnx x y hy⟩) h.self
    exact ⟨this.1, this.2.1⟩
theorem needs_self (hnx : ∀ x y, y ∈ nx x → y ∈ U) (x : ByteArray) : memB x (needsG nx (U.length + 1) x []) = true ↔ Far nx x x := by
  obtain ⟨g, gs⟩ := needs_grew hnx (U.length + 1) x [] ⟨by simp, by simp⟩ (by simp)
  rw [memB_iff]
  refine ⟨fun h => g.far x h (by simp), fun h => ?_⟩
  have all : ∀ a b, Far nx a b → (∀ z ∈ nx a, z ∈ needsG nx (U.length + 1) x []) → b ∈ needsG nx (U.length + 1) x [] := fun a b h => by
    induction h with
    | one h => exact fun k => k _ h
    | more h _ ih => exact fun k => ih (g.shut _ (k _ h) (by simp))
  exact all x x h gs
end
end Go.Proofs.YtbmoiajdknejnaaGreat

/- Data that lie in variables of their own: what a call makes, what marks it, what looks at it. -/
set_option linter.unusedVariables false
set_option linter.unusedSimpArgs false
set_option maxRecDepth 100000
namespace Go.Proofs.YtbmoiajdknejnaaGreat
open Go.Sh
variable {gl : Nat → Option D}
/-- What lies: a plain value, no row, a row (z: it may be appended to). -/
inductive Sk where
  | d (v : Value)
  | nil
  | row (z : Option Nat) (n : Nat) (cs : List Sk)
/-- The same, with the rows' variables. -/
inductive Ld where
  | d (v : Value)
  | nil
  | row (z : Option Nat) (b n : Nat) (cs : List Ld)
def rowV (z : Option Nat) (b n : Nat) : SV := match z with | none => .os b 0 n | some sz => .sk b n sz
@[simp] theorem rowV_none (b n : Nat) : rowV none b n = .os b 0 n := (rfl)
@[simp] theorem rowV_some (b n sz : Nat) : rowV (some sz) b n = .sk b n sz := (rfl)
def Ld.sv : Ld → SV
  | .d v => .d (.v v)
  | .nil => .fl [] 0
  | .row z b n _ => rowV z b n
@[simp] theorem Ld.sv_d (v : Value) : (Ld.d v).sv = .d (.v v) := (rfl)
@[simp] theorem Ld.sv_nil : Ld.nil.sv = .fl [] 0 := (rfl)
@[simp] theorem Ld.sv_row (z : Option Nat) (b n : Nat) (cs : List Ld) : (Ld.row z b n cs).sv = rowV z b n := (rfl)
def svs (cs : List Ld) : List SV := cs.map Ld.sv
@[simp] theorem svs_len (cs : List Ld) : (svs cs).length = cs.length := List.length_map ..
@[simp] theorem svs_nil : svs [] = [] := (rfl)
@[simp] theorem svs_cons (x : Ld) (cs : List Ld) : svs (x :: cs) = x.sv :: svs cs := (rfl)
@[simp] theorem svs_app (a b : List Ld) : svs (a ++ b) = svs a ++ svs b := List.map_append ..
mutual
def Ld.sh : Ld → Sk
  | .d v => .d v
  | .nil => .nil
  | .row z _ n cs => .row z n (shs cs)
def shs : List Ld → List Sk
  | [] => []
  | x :: r => x.sh :: shs r
end
mutual
/-- The variables, and what they have. -/
def Ld.vars : Ld → List (Nat × List SV)
  | .d _ => []
  | .nil => []
  | .row _ b _ cs => (b, svs cs) :: varsL cs
def varsL : List Ld → List (Nat × List SV)
  | [] => []
  | x :: r => x.vars ++ varsL r
end
mutual
def Sk.cnt : Sk → Nat
  | .d _ => 0
  | .nil => 0
  | .row _ _ cs => 1 + cntL cs
def cntL : List Sk → Nat
  | [] => 0
  | x :: r => x.cnt + cntL r
end
mutual
/-- Laid from variable k on. -/
def Sk.can (k : Nat) : Sk → Ld
  | .d v => .d v
  | .nil => .nil
  | .row z n cs => .row z k n (canL (k + 1) cs)
def canL (k : Nat) : List Sk → List Ld
  | [] => []
  | x :: r => x.can k :: canL (k + x.cnt) r
end
mutual
def Sk.data : Sk → D
  | .d v => .v v
  | .nil => .ps [] 0
  | .row _ n cs => .ps (dataL cs) n
def dataL : List Sk → List D
  | [] => []
  | x :: r => x.data :: dataL r
end
@[simp] theorem shs_len : ∀ cs : List Ld, (shs cs).length = cs.length
  | [] => rfl
  | x :: r => by simp [shs, shs_len r]
theorem varsL_app : ∀ a b : List Ld, varsL (a ++ b) = varsL a ++ varsL b
  | [], b => rfl
  | x :: r, b => by simp [varsL, varsL_app r b]
theorem dataL_app : ∀ a b : List Sk, dataL (a ++ b) = dataL a ++ dataL b
  | [], b => rfl
  | x :: r, b => by simp [dataL, dataL_app r b]
@[simp] theorem dataL_len : ∀ cs : List Sk, (dataL cs).length = cs.length
  | [] => rfl
  | x :: r => by simp [dataL, dataL_len r]
mutual
theorem can_sh (k : Nat) : ∀ x : Sk, (x.can k).sh = x
  | .d v => by simp [Sk.can, Ld.sh]
  | .nil => by simp [Sk.can, Ld.sh]
  | .row z n cs => by simp [Sk.can, Ld.sh, canL_shs (k + 1) cs]
theorem canL_shs (k : Nat) : ∀ cs : List Sk, shs (canL k cs) = cs
  | [] => by simp [canL, shs]
  | x :: r => by simp [canL, shs, can_sh k x, canL_shs (k + x.cnt) r]
end
@[simp] theorem canL_len (k : Nat) (cs : List Sk) : (canL k cs).length = cs.length := by rw [← shs_len, canL_shs]

/-! ### other numbers -/
theorem can_sv (k m : Nat) (x : Sk) : (x.can k).sv.shift m = (x.can (m + k)).sv := by
  cases x with
  | d v => simp [Sk.can]
  | nil => simp [Sk.can]
  | row z n cs => cases z <;> simp [Sk.can, SV.shift]
theorem canL_svs (m : Nat) : ∀ (k : Nat) (cs : List Sk), (svs (canL k cs)).map (SV.shift m) = svs (canL (m + k) cs)
  | k, [] => by simp [canL]
  | k, x :: r => by
    simp [canL, can_sv, canL_svs m (k + x.cnt) r, Nat.add_assoc]
abbrev shV (m : Nat) (p : Nat × List SV) : Nat × List SV := (m + p.1, p.2.map (SV.shift m))
mutual
theorem can_vars (m : Nat) : ∀ (k : Nat) (x : Sk), (x.can k).vars.map (shV m) = (x.can (m + k)).vars
  | k, .d v => by simp [Sk.can, Ld.vars]
  | k, .nil => by simp [Sk.can, Ld.vars]
  | k, .row z n cs => by
    have h1 := canL_svs m (k + 1) cs
    have h2 := canL_vars m (k + 1) cs
    simp only [Sk.can, Ld.vars, List.map_cons, shV, h1, h2, Nat.add_assoc]
theorem canL_vars (m : Nat) : ∀ (k : Nat) (cs : List Sk), (varsL (canL k cs)).map (shV m) = varsL (canL (m + k) cs)
  | k, [] => by simp [canL, varsL]
  | k, x :: r => by
    simp only [canL, varsL, List.map_append, can_vars m k x, canL_vars m (k + x.cnt) r, Nat.add_assoc]
end
mutual
theorem can_ids : ∀ (k : Nat) (x : Sk), (x.can k).vars.map (·.1) = (List.range x.cnt).map (k + ·)
  | k, .d v => by simp [Sk.can, Ld.vars, Sk.cnt]
  | k, .nil => by simp [Sk.can, Ld.vars, Sk.cnt]
  | k, .row z n cs => by
    simp only [Sk.can, Ld.vars, List.map_cons, Sk.cnt, canL_ids (k + 1) cs]
    rw [Nat.add_comm 1, List.range_succ_eq_map]
    simp only [List.map_cons, List.map_map, Nat.add_zero, List.cons.injEq, true_and]
    refine List.map_congr_left fun i _ => ?_
    simp only [Function.comp_apply]; omega
theorem canL_ids : ∀ (k : Nat) (cs : List Sk), (varsL (canL k cs)).map (·.1) = (List.range (cntL cs)).map (k + ·)
  | k, [] => by simp [canL, varsL, cntL]
  | k, x :: r => by
    simp only [canL, varsL, List.map_append, can_ids k x, canL_ids (k + x.cnt) r, cntL]
    rw [List.range_add, List.map_append, List.map_map]
    congr 1
    refine List.map_congr_left fun i _ => ?_
    simp only [Function.comp_apply]; omega
end
theorem canL_nodup (k : Nat) (cs : List Sk) : ((varsL (canL k cs)).map (·.1)).Nodup := by
  rw [canL_ids]
  refine List.Pairwise.map _ (R := (· ≠ ·)) (fun a b h => by omega) List.nodup_range
theorem canL_rng {k : Nat} {cs : List Sk} {p : Nat × List SV} (h : p ∈ varsL (canL k cs)) : k ≤ p.1 ∧ p.1 < k + cntL cs := by
  have : p.1 ∈ (varsL (canL k cs)).map (·.1) := List.mem_map_of_mem h
  rw [canL_ids] at this
  obtain ⟨i, h1, h2⟩ := List.mem_map.1 this
  have := List.mem_range.1 h1
  omega
theorem lookN_of {V : List (Nat × List SV)} (hd : (V.map (·.1)).Nodup) {p : Nat × List SV} (h : p ∈ V) : lookN V p.1 = some p.2 := by
  induction V with
  | nil => simp at h
  | cons q V ih =>
    simp only [List.map_cons, List.nodup_cons] at hd
    have e : lookN (q :: V) p.1 = if p.1 = q.1 then some q.2 else lookN V p.1 := rfl
    rw [e]
    rcases List.mem_cons.1 h with h1 | h1
    · subst h1; exact if_pos rfl
    · rw [if_neg fun e => hd.1 (List.mem_map.2 ⟨p, h1, e⟩)]
      exact ih hd.2 h1

/-! ### what lies in the variables of a state -/
/-- These lie there, each row in a variable of its own, from number lo on and below hi. -/
structure At (S : St) (lo hi : Nat) (cs : List Ld) : Prop where
  has : ∀ p ∈ varsL cs, S.B p.1 = some p.2
  nodup : ((varsL cs).map (·.1)).Nodup
  rng : ∀ p ∈ varsL cs, lo ≤ p.1 ∧ p.1 < hi
theorem At.nil {S : St} {lo hi : Nat} : At S lo hi [] := ⟨by simp [varsL], by simp [varsL], by simp [varsL]⟩
theorem At.app {S : St} {lo mid hi : Nat} {a b : List Ld} (ha : At S lo mid a) (hb : At S mid hi b) (h1 : lo ≤ mid) (h2 : mid ≤ hi) : At S lo hi (a ++ b) := by
  refine ⟨fun p hp => ?_, ?_, fun p hp => ?_⟩
  · rw [varsL_app] at hp
    rcases List.mem_append.1 hp with hp | hp
    · exact ha.has p hp
    · exact hb.has p hp
  · rw [varsL_app, List.map_append]
    refine List.nodup_append.2 ⟨ha.nodup, hb.nodup, fun x hx y hy e => ?_⟩
    obtain ⟨p, hp, rfl⟩ := List.mem_map.1 hx
    obtain ⟨q, hq, rfl⟩ := List.mem_map.1 hy
    have := ha.rng p hp
    have := hb.rng q hq
    omega
  · rw [varsL_app] at hp
    rcases List.mem_append.1 hp with hp | hp
    · have := ha.rng p hp; omega
    · have := hb.rng p hp; omega
theorem At.le {S : St} {lo hi lo' hi' : Nat} {a : List Ld} (ha : At S lo hi a) (h1 : lo' ≤ lo) (h2 : hi ≤ hi') : At S lo' hi' a := ⟨ha.has, ha.nodup, fun p hp => by have := ha.rng p hp; omega⟩
/-- The variables of the range are what they were. -/
theorem At.keep {S S' : St} {lo hi : Nat} {a : List Ld} (ha : At S lo hi a) (h : ∀ b, lo ≤ b → b < hi → S'.B b = S.B b) : At S' lo hi a :=
  ⟨fun p hp => by have := ha.rng p hp; rw [h _ this.1 this.2]; exact ha.has p hp, ha.nodup, ha.rng⟩
theorem At.row {S : St} {lo hi b n : Nat} {z : Option Nat} {cs : List Ld} (hb : S.B b = some (svs cs)) (hlo : lo ≤ b) (hhi : b < hi) (hc : At S lo hi cs) (hn : ∀ p ∈ varsL cs, p.1 ≠ b) : At S lo hi [.row z b n cs] := by
  refine ⟨fun p hp => ?_, ?_, fun p hp => ?_⟩
  · simp only [varsL, Ld.vars, List.append_nil, List.mem_cons] at hp
    rcases hp with rfl | hp
    · exact hb
    · exact hc.has p hp
  · simp only [varsL, Ld.vars, List.append_nil, List.map_cons, List.nodup_cons]
    refine ⟨fun h => ?_, hc.nodup⟩
    obtain ⟨p, hp, e⟩ := List.mem_map.1 h
    exact hn p hp e
  · simp only [varsL, Ld.vars, List.append_nil, List.mem_cons] at hp
    rcases hp with rfl | hp
    · exact ⟨hlo, hhi⟩
    · exact hc.rng p hp
mutual
def Sk.dep : Sk → Nat
  | .d _ => 0
  | .nil => 0
  | .row _ _ cs => depL cs + 1
def depL : List Sk → Nat
  | [] => 0
  | x :: r => max x.dep (depL r)
end
mutual
theorem frz_ld {B : Nat → Option (List SV)} : ∀ (x : Ld) (k : Nat), (∀ p ∈ x.vars, B p.1 = some p.2) → x.sh.dep < k → frz B k x.sv = some x.sh.data ∧ frzv B k x.sv = some x.sh.data
  | .d v, k + 1, _, _ => by simp [frz, frzv, Ld.sh, Sk.data]
  | .nil, k + 1, _, _ => by simp [frz, frzv, Ld.sh, Sk.data]
  | .row z b n cs, k + 1, h, hk => by
    simp only [Ld.sh, Sk.dep] at hk
    simp only [Ld.vars, List.forall_mem_cons] at h
    obtain ⟨h1, h2⟩ := frz_lds cs k h.2 (by omega)
    cases z <;> simp [frz, frzv, Ld.sh, Sk.data, h.1, h1, h2]
theorem frz_lds {B : Nat → Option (List SV)} : ∀ (cs : List Ld) (k : Nat), (∀ p ∈ varsL cs, B p.1 = some p.2) → depL (shs cs) < k → mapO (frz B k) (svs cs) = some (dataL (shs cs)) ∧ mapO (frzv B k) (svs cs) = some (dataL (shs cs))
  | [], k, _, _ => ⟨rfl, rfl⟩
  | x :: r, k, h, hk => by
    simp only [shs, depL] at hk
    simp only [varsL, List.mem_append] at h
    obtain ⟨h1, h2⟩ := frz_ld x k (fun p hp => h p (.inl hp)) (by omega)
    obtain ⟨h3, h4⟩ := frz_lds r k (fun p hp => h p (.inr hp)) (by omega)
    simp [mapO, shs, dataL, h1, h2, h3, h4]
end

@[simp] theorem mapO_frzd (B : Nat → Option (List SV)) (k : Nat) (cs : List D) : mapO (frz B (k + 1)) (cs.map SV.d) = some cs := by
  induction cs with
  | nil => rfl
  | cons x r ih => simp only [List.map_cons, mapO, ih]; rfl

/-! ### calls that make such data -/
mutual
def Ld.prs (k : Nat) : Ld → List (Nat × Nat × Bool)
  | .d _ => []
  | .nil => []
  | .row _ b _ cs => (k, b, false) :: prsL (k + 1) cs
def prsL (k : Nat) : List Ld → List (Nat × Nat × Bool)
  | [] => []
  | x :: r => x.prs k ++ prsL (k + x.sh.cnt) r
end
theorem like_ld {T : Nat → Option (Nat × Nat)} {M : List (Nat × Nat × Bool)} (x : Ld) (k : Nat) (h : ∀ p ∈ x.prs k, p ∈ M) : Like T M x.sv (x.sh.can k).sv := by
  cases x with
  | d v => simp only [Ld.sh, Sk.can, Ld.sv_d]; exact .d v
  | nil => simp only [Ld.sh, Sk.can, Ld.sv_nil]; exact .fl
  | row z b n cs =>
    have hm : (k, b, false) ∈ M := h _ (by simp [Ld.prs])
    cases z with
    | none => simp only [Ld.sh, Sk.can, Ld.sv_row, rowV_none]; exact .os hm
    | some sz => simp only [Ld.sh, Sk.can, Ld.sv_row, rowV_some]; exact .sk hm
theorem like_lds {T : Nat → Option (Nat × Nat)} {M : List (Nat × Nat × Bool)} : ∀ (cs : List Ld) (k : Nat), (∀ p ∈ prsL k cs, p ∈ M) → ∀ j (h : j < (svs cs).length) (h' : j < (svs (canL k (shs cs))).length), Like T M (svs cs)[j] (svs (canL k (shs cs)))[j]
  | [], k, _, j, h, _ => by simp at h
  | x :: r, k, hp, 0, h, h' => by
    simp only [prsL, List.mem_append] at hp
    simp only [shs, canL, svs_cons, List.getElem_cons_zero]
    exact like_ld x k fun p h => hp p (.inl h)
  | x :: r, k, hp, j + 1, h, h' => by
    simp only [prsL, List.mem_append] at hp
    have := like_lds (T := T) (M := M) r (k + x.sh.cnt) (fun p h => hp p (.inr h)) j (by simpa using h) (by simpa [shs] using h')
    simpa [shs, canL] using this
mutual
theorem prs_vars {T : Nat → Option (Nat × Nat)} {M : List (Nat × Nat × Bool)} : ∀ (x : Ld) (k : Nat), (∀ p ∈ x.prs k, p ∈ M) → ∀ q ∈ (x.sh.can k).vars, ∃ b c0, (q.1, b, false) ∈ M ∧ (b, c0) ∈ x.vars ∧ q.2.length = c0.length ∧ ∀ j (h : j < c0.length) (h' : j < q.2.length), Like T M c0[j] q.2[j]
  | .d v, k, _, q, hq => by simp [Ld.sh, Sk.can, Ld.vars] at hq
  | .nil, k, _, q, hq => by simp [Ld.sh, Sk.can, Ld.vars] at hq
  | .row z b n cs, k, hp, q, hq => by
    simp only [Ld.sh, Sk.can, Ld.vars, List.mem_cons] at hq
    simp only [Ld.prs, List.mem_cons] at hp
    rcases hq with rfl | hq
    · exact ⟨b, svs cs, hp _ (.inl rfl), by simp [Ld.vars], by simp, like_lds cs (k + 1) fun p h => hp p (.inr h)⟩
    · obtain ⟨b', c0, h1, h2, h3, h4⟩ := prsL_vars cs (k + 1) (fun p h => hp p (.inr h)) q hq
      exact ⟨b', c0, h1, by simp [Ld.vars, h2], h3, h4⟩
theorem prsL_vars {T : Nat → Option (Nat × Nat)} {M : List (Nat × Nat × Bool)} : ∀ (cs : List Ld) (k : Nat), (∀ p ∈ prsL k cs, p ∈ M) → ∀ q ∈ varsL (canL k (shs cs)), ∃ b c0, (q.1, b, false) ∈ M ∧ (b, c0) ∈ varsL cs ∧ q.2.length = c0.length ∧ ∀ j (h : j < c0.length) (h' : j < q.2.length), Like T M c0[j] q.2[j]
  | [], k, _, q, hq => by simp [shs, canL, varsL] at hq
  | x :: r, k, hp, q, hq => by
    simp only [prsL, List.mem_append] at hp
    simp only [shs, canL, varsL, List.mem_append] at hq
    rcases hq with hq | hq
    · obtain ⟨b', c0, h1, h2, h3, h4⟩ := prs_vars x k (fun p h => hp p (.inl h)) q hq
      exact ⟨b', c0, h1, by simp [varsL, h2], h3, h4⟩
    · obtain ⟨b', c0, h1, h2, h3, h4⟩ := prsL_vars r (k + x.sh.cnt) (fun p h => hp p (.inr h)) q hq
      exact ⟨b', c0, h1, by simp [varsL, h2], h3, h4⟩
end
mutual
theorem prs_new : ∀ (x : Ld) (k : Nat), (x.prs k).map (·.1) = (List.range x.sh.cnt).map (k + ·)
  | .d v, k => by simp [Ld.prs, Ld.sh, Sk.cnt]
  | .nil, k => by simp [Ld.prs, Ld.sh, Sk.cnt]
  | .row z b n cs, k => by
    simp only [Ld.prs, Ld.sh, List.map_cons, Sk.cnt, prsL_new cs (k + 1)]
    rw [Nat.add_comm 1, List.range_succ_eq_map]
    simp only [List.map_cons, List.map_map, Nat.add_zero, List.cons.injEq, true_and]
    refine List.map_congr_left fun i _ => ?_
    simp only [Function.comp_apply]; omega
theorem prsL_new : ∀ (cs : List Ld) (k : Nat), (prsL k cs).map (·.1) = (List.range (cntL (shs cs))).map (k + ·)
  | [], k => by simp [prsL, shs, cntL]
  | x :: r, k => by
    simp only [prsL, shs, List.map_append, prs_new x k, prsL_new r (k + x.sh.cnt), cntL]
    rw [List.range_add, List.map_append, List.map_map]
    congr 1
    refine List.map_congr_left fun i _ => ?_
    simp only [Function.comp_apply]; omega
end
mutual
theorem prs_old : ∀ (x : Ld) (k : Nat), (x.prs k).map (·.2) = x.vars.map fun p => (p.1, false)
  | .d v, k => by simp [Ld.prs, Ld.vars]
  | .nil, k => by simp [Ld.prs, Ld.vars]
  | .row z b n cs, k => by simp [Ld.prs, Ld.vars, prsL_old cs (k + 1)]
theorem prsL_old : ∀ (cs : List Ld) (k : Nat), (prsL k cs).map (·.2) = (varsL cs).map fun p => (p.1, false)
  | [], k => by simp [prsL, varsL]
  | x :: r, k => by simp [prsL, varsL, prs_old x k, prsL_old r (k + x.sh.cnt)]
end
/-- The variables of the result, laid from 0 on. -/
abbrev newL (cs : List Sk) : Nat → Option (List SV) := lookN (varsL (canL 0 cs))
/-- A call that makes memory of its own. -/
theorem _root_.Go.Sh.CallT.f {P : Program} {S : St} {lo : Lo} {g : FuncId} {ss : List SV} {K : Bool → SV → St → Prop} {ds : List D} {r : SV} {k n : Nat} {B : Nat → Option (List SV)} {gl : Nat → Option D} (h : FCall P gl g ds r k B) (hg : S.gl = gl) (hl : lo.loud = true) (hd : mapO (frz S.B n) ss = some ds)
    (kk : K true (r.shift S.nx) (addS S k B)) : CallT lo P g ss S K := .l (.ofF (by rw [hg]; exact h) hd) hl kk
theorem _root_.Go.Sh.FCall.own {P : Program} {S : St} {g : FuncId} {ss : List SV} {ds : List D} {r : SV} {k n base top : Nat} {B : Nat → Option (List SV)} {gl : Nat → Option D} (h : FCall P gl g ds r k B) (hg : S.gl = gl) (hx : top ≤ S.nx)
    (hd : ∀ B' : Nat → Option (List SV), (∀ b, b < base → B' b = S.B b) → mapO (frz B' n) ss = some ds) : OwnK P g ss S base top (r.shift S.nx) (fun B0 x => if x < S.nx then B0 x else if x < S.nx + k then (B (x - S.nx)).map (·.map (SV.shift S.nx)) else none) (S.nx + k) := by
  refine ⟨fun S1 k1 k2 k3 k4 k5 k6 => ?_, fun B0 q cs hq => ?_, fun B0 b hb => if_pos (by omega), fun B0 C b hb => ?_⟩
  · have := LCall.ofF (S := S1) (by rw [k3, hg]; exact h) (hd S1.B k6)
    rw [← k2]
    exact this
  · funext x
    simp only [upd]
    by_cases e : x = q
    · rw [if_pos e, if_pos (by omega)]; simp [e]
    · rw [if_neg e]; simp [e]
  · simp only [hb]
/-- A call that makes memory of its own, in a region that draws its order; l: what reads beside it. -/
theorem _root_.Go.Sh.CallT.o {P : Program} {A : Ar} {base i : Nat} {Eh : Eh} {S : St} {g : FuncId} {ss : List SV} {K : Bool → SV → St → Prop} {ds : List D} {r : SV} {k n : Nat} {B : Nat → Option (List SV)} {gl : Nat → Option D} (l : Go.Sh.Old) (h : FCall P gl g ds r k B) (hg : S.gl = gl)
    (hf : freeAt A.a i = true) (hl : oldOf A.a i = l) (ho : OldT l base Eh.e) (hx : base + A.a.size ≤ S.nx) (hd : ∀ B' : Nat → Option (List SV), (∀ b, b < base → B' b = S.B b) → mapO (frz B' n) ss = some ds) (kk : K true (r.shift S.nx) (addS S k B)) : CallT (@LoudT true A base i Eh) P g ss S K :=
  .own l hf hl ho (h.own hg hx hd) kk
/-- What a call has added: what was there is still so. -/
theorem At.old {S : St} {lo hi K : Nat} {B : Nat → Option (List SV)} {cs : List Ld} (h : At S lo hi cs) (hh : hi ≤ S.nx) : At (addS S K B) lo hi cs :=
  h.keep fun b _ h2 => by rw [addS_B, if_pos (by omega)]
theorem At.added (S : St) (cs : List Sk) : At (addS S (cntL cs) (newL cs)) S.nx (S.nx + cntL cs) (canL S.nx cs) := by
  refine ⟨fun p hp => ?_, canL_nodup _ _, fun p hp => canL_rng hp⟩
  have hr := canL_rng hp
  have e := canL_vars S.nx 0 cs
  rw [Nat.add_zero] at e
  rw [← e] at hp
  obtain ⟨q, hq, rfl⟩ := List.mem_map.1 hp
  rw [addS_B, if_neg (by simp), if_pos (by simp only [shV] at hr ⊢; omega)]
  simp only [shV, Nat.add_sub_cancel_left, newL]
  rw [lookN_of (canL_nodup 0 cs) hq]
  rfl
theorem At.new {S' : St} {q : Nat} {cs : List Sk} (h : ∀ b, q ≤ b → b < q + cntL cs → S'.B b = (newL cs (b - q)).map (·.map (SV.shift q))) : At S' q (q + cntL cs) (canL q cs) := by
  let S0 : St := { B := fun _ => none, T := fun _ => none, n := 0, md := [], gl := fun _ => none, nx := q }
  exact (At.added S0 cs).keep fun b h1 h2 => by
    have h3 : q ≤ b := h1
    rw [h b h1 h2, addS_B, if_neg (show ¬ b < q by omega), if_pos (by exact h2)]
/-- A row that grows: nothing yet, or a tip. -/
def AccD (sz : Nat) (S : St) (X : SV) (cs : List D) (n : Nat) : Prop := (n = 0 ∧ cs = [] ∧ X = .fl [] 0) ∨ (0 < n ∧ ∃ i, i < S.nx ∧ X = .tp i 0 cs n ∧ S.T i = some (n, sz))
theorem AccD.nil {sz : Nat} {S : St} : AccD sz S (.fl [] 0) [] 0 := .inl ⟨rfl, rfl, rfl⟩
theorem AccD.mono {sz : Nat} {S S' : St} {X : SV} {cs : List D} {n : Nat} (h : AccD sz S X cs n) (hn : S.nx ≤ S'.nx) (hT : ∀ i, i < S.nx → S'.T i = S.T i) : AccD sz S' X cs n :=
  h.imp id fun ⟨a, i, h1, h2, h3⟩ => ⟨a, i, by omega, h2, (hT i h1).trans h3⟩
theorem AccD.other {sz sz' m q : Nat} {S S' : St} {X : SV} {cs : List D} {n : Nat} (h : AccD sz S X cs n) (hq : S.T q = some (m, sz')) (hne : sz' ≠ sz) (hn : S.nx ≤ S'.nx) (hT : ∀ i, i < S.nx → i ≠ q → S'.T i = S.T i) : AccD sz S' X cs n :=
  h.imp id fun ⟨a, i, h1, h2, h3⟩ => ⟨a, i, by omega, h2, (hT i h1 (fun e => by rw [e, hq] at h3; simp at h3; exact hne h3.2)).trans h3⟩
theorem AccD.frz {sz : Nat} {S : St} {X : SV} {cs : List D} {n k : Nat} {B : Nat → Option (List SV)} (h : AccD sz S X cs n) : Go.Sh.frz B (k + 1) X = some (.ps cs n) := by
  rcases h with ⟨rfl, rfl, rfl⟩ | ⟨_, i, _, rfl, _⟩ <;> rfl
theorem AccD.one {sz : Nat} {S : St} {X : SV} {cs : List D} {n : Nat} (h : AccD sz S X cs n) : X.one = true ∧ X.cells = [X] ∧ X.cell = true := by
  rcases h with ⟨rfl, rfl, rfl⟩ | ⟨_, i, _, rfl, _⟩ <;> exact ⟨rfl, rfl, rfl⟩
end Go.Proofs.YtbmoiajdknejnaaGreat

/- Copies of texts and values in memory of their own (laws.toX). -/
set_option linter.unusedVariables false
set_option linter.unusedSimpArgs false
set_option maxRecDepth 100000
namespace Go.Proofs.YtbmoiajdknejnaaGreat
open Go.Sh
variable {gl : Nat → Option D}
/-- A row of such; e: also if it is empty. -/
def skR (e : Bool) (n : Nat) (cs : List Sk) : Sk := if n = 0 ∧ e = false then .nil else .row none n cs
@[simp] theorem skR_true (n : Nat) (cs : List Sk) : skR true n cs = .row none n cs := by simp [skR]
@[simp] theorem skR_zero (cs : List Sk) : skR false 0 cs = .nil := by simp [skR]
def skS (e : Bool) (l : List ByteArray) : Sk := skR e l.length (l.map fun s => .d (.string s))
@[simp] theorem can_row (z : Option Nat) (n k : Nat) (cs : List Sk) : ((Sk.row z n cs).can k).sv = rowV z k n := by simp [Sk.can]
theorem skR_cases (e : Bool) (n : Nat) (cs : List Sk) : skR e n cs = .nil ∨ skR e n cs = .row none n cs := by unfold skR; split <;> simp
@[simp] theorem skR_one (e : Bool) (n k : Nat) (cs : List Sk) : ((skR e n cs).can k).sv.one = true := by rcases skR_cases e n cs with h | h <;> rw [h] <;> rfl
@[simp] theorem skR_cells (e : Bool) (n k : Nat) (cs : List Sk) : ((skR e n cs).can k).sv.cells = [((skR e n cs).can k).sv] := by rcases skR_cases e n cs with h | h <;> rw [h] <;> rfl
@[simp] theorem skS_one (e : Bool) (k : Nat) (l : List ByteArray) : ((skS e l).can k).sv.one = true := skR_one _ _ _ _
@[simp] theorem skS_cells (e : Bool) (k : Nat) (l : List ByteArray) : ((skS e l).can k).sv.cells = [((skS e l).can k).sv] := skR_cells _ _ _ _
mutual
def Val.sk (e : Bool) : Val → List Sk
  | .mk k n t l ns => [.d (.int .i64 k), .d (.int .i64 n), .d (.string t), skR e l.length (valsSk e l), skS e ns]
def valsSk (e : Bool) : List Val → List Sk
  | [] => []
  | v :: r => v.sk e ++ valsSk e r
end
@[simp] theorem sk_len (e : Bool) (v : Val) : (v.sk e).length = 5 := by cases v; rfl
theorem skR_data {e : Bool} {n : Nat} {cs : List Sk} (h : n = 0 → cs = []) : (skR e n cs).data = .ps (dataL cs) n := by
  unfold skR
  split
  · rename_i h1; obtain ⟨rfl, _⟩ := h1; rw [h rfl]; rfl
  · rfl
theorem skS_data (e : Bool) (l : List ByteArray) : (skS e l).data = namesD l := by
  unfold skS
  rw [skR_data (fun h => by rw [List.eq_nil_of_length_eq_zero h]; rfl)]
  congr 1
  induction l with
  | nil => rfl
  | cons s r ih => simp [dataL, Sk.data, ih]
mutual
theorem sk_data (e : Bool) : ∀ v : Val, dataL (v.sk e) = v.cells
  | .mk k n t l ns => by
    have : (skR e l.length (valsSk e l)).data = valsD l := by
      rw [skR_data (fun h => by rw [List.eq_nil_of_length_eq_zero h]; rfl), valsSk_data e l]
    simp [Val.sk, dataL, Sk.data, Val.cells, skS_data, this]
theorem valsSk_data (e : Bool) : ∀ l : List Val, dataL (valsSk e l) = valsCells l
  | [] => rfl
  | v :: r => by simp [valsSk, dataL_app, valsCells, sk_data e v, valsSk_data e r]
end
/-- Texts, as they lie. -/
abbrev ldT (l : List ByteArray) : List Ld := l.map fun s => .d (.string s)
@[simp] theorem ldT_vars (l : List ByteArray) : varsL (ldT l) = [] := by
  induction l with
  | nil => rfl
  | cons s r ih => simpa [varsL, Ld.vars] using ih
@[simp] theorem take_svs (cs : List Ld) (h : cs.length = 5) : (svs cs).take 5 = svs cs := List.take_of_length_le (by simp [h])
/-- A row that is being filled: A is there, m elements z are still to come. -/
def rowC (A z : List SV) (m : Nat) : List SV := A ++ (List.replicate m z).flatten
def txS (l : List ByteArray) : List SV := svs (ldT l)
@[simp] theorem txS_len (l : List ByteArray) : (txS l).length = l.length := by simp [txS]
@[simp] theorem txS_nil : txS [] = [] := (rfl)
@[simp] theorem canL_svs0 (m : Nat) (cs : List Sk) : (svs (canL 0 cs)).map (SV.shift m) = svs (canL m cs) := by rw [canL_svs, Nat.add_zero]
@[simp] theorem can_sv0 (m : Nat) (x : Sk) : (x.can 0).sv.shift m = (x.can m).sv := by rw [can_sv, Nat.add_zero]
theorem At.mono {S S' : St} {lo hi : Nat} {a : List Ld} (ha : At S lo hi a) (h : S'.B = S.B) : At S' lo hi a := ha.keep fun b _ _ => by rw [h]
theorem At.skip {S S' : St} {lo hi q : Nat} {cs : List SV} {a : List Ld} (ha : At S lo hi a) (hq : q < lo ∨ hi ≤ q) (h : S'.B = upd S.B q cs) : At S' lo hi a := ha.keep fun b h1 h2 => by rw [h, upd_ne _ _ (by omega)]
abbrev valF (gl : Nat → Option D) (f : Nat) (e : Bool) (ds : List D) (v : Val) : Prop := FCall Tryz.prog gl f ds (.ag (svs (canL 0 (v.sk e)))) (cntL (v.sk e)) (newL (v.sk e))
abbrev rowF1 (gl : Nat → Option D) (f : Nat) (ds : List D) (x : Sk) : Prop := FCall Tryz.prog gl f ds (x.can 0).sv (cntL [x]) (newL [x])
end Go.Proofs.YtbmoiajdknejnaaGreat

/- Types of a schema: sizes, copies, comparisons. -/
set_option linter.unusedVariables false
set_option linter.unusedSimpArgs false
set_option maxRecDepth 100000
namespace Go.Proofs.YtbmoiajdknejnaaGreat
open Go.Sh
variable {gl : Nat → Option D}
/-- A type: name, what it is a list of, must it be there. -/
inductive Typ where
  | mk (name : ByteArray) (of : List Typ) (must : Bool)
  deriving Inhabited
mutual
def Typ.cells : Typ → List D
  | .mk t l b => [dS t, .ps (typsCells l) l.length, dB b]
def typsCells : List Typ → List D
  | [] => []
  | v :: r => v.cells ++ typsCells r
end
abbrev Typ.d (v : Typ) : D := .agg v.cells
abbrev typsD (l : List Typ) : D := .ps (typsCells l) l.length
theorem tcells_len (v : Typ) : v.cells.length = 3 := by cases v; rfl
@[simp] theorem take_tcells (v : Typ) : v.cells.take 3 = v.cells := List.take_of_length_le (by rw [tcells_len]; exact Nat.le_refl _)
@[simp] theorem take_tcellsS (v : Typ) : (v.cells.map SV.d).take 3 = v.cells.map SV.d := List.take_of_length_le (by rw [List.length_map, tcells_len]; exact Nat.le_refl _)
theorem typsCells_row : ∀ l : List Typ, typsCells l = l.flatMap Typ.cells
  | [] => by simp [typsCells]
  | v :: r => by rw [typsCells, typsCells_row r, List.flatMap_cons]
theorem typsCells_len (l : List Typ) : (typsCells l).length = l.length * 3 := by rw [typsCells_row, row_len tcells_len]
theorem typsCells_at (l : List Typ) {i : Nat} (hi : i < l.length) : ((typsCells l).drop (i * 3)).take 3 = (l[i]).cells := by rw [typsCells_row, row_at tcells_len l i hi]
/-- Not longer than n. -/
inductive TLe (n : Nat) : Typ → Prop
  | mk {t : ByteArray} {l : List Typ} {b : Bool} (ht : t.size ≤ n) (hl : l.length ≤ n) (h : ∀ v ∈ l, TLe n v) : TLe n (.mk t l b)
theorem TLe.mono {n m : Nat} (hnm : n ≤ m) : ∀ {v : Typ}, TLe n v → TLe m v
  | .mk t l b, .mk ht hl h => .mk (by omega) (by omega) fun v hv =>
    have := List.sizeOf_lt_of_mem hv
    TLe.mono hnm (h v hv)
termination_by v => SizeOf.sizeOf v
decreasing_by
  simp_wf
  omega
/-- What is left once a row is counted. -/
def szGoR {α : Type} (f : α → Int → Int) : List α → Int → Int
  | [], r => r
  | x :: l, r => if f x r < 0 then -1 else szGoR f l (f x r)
def szRow {α : Type} (f : α → Int → Int) (l : List α) (left : Int) : Int := if left - l.length < 0 then -1 else szGoR f l (left - l.length)
def SzLe {α : Type} (f : α → Int → Int) (x : α) : Prop := ∀ r, -1 ≤ r → -1 ≤ f x r ∧ f x r ≤ r
theorem szGoR_le {α : Type} {f : α → Int → Int} : ∀ (l : List α), (∀ x ∈ l, SzLe f x) → ∀ r, -1 ≤ r → -1 ≤ szGoR f l r ∧ szGoR f l r ≤ r
  | [], _, r, h => by simp only [szGoR]; omega
  | x :: l, hf, r, h => by
    simp only [szGoR]
    have h1 := hf x (List.mem_cons_self ..) r h
    split
    · omega
    · have := szGoR_le l (fun y hy => hf y (List.mem_cons_of_mem _ hy)) (f x r) (by omega)
      omega
theorem szRow_le {α : Type} {f : α → Int → Int} {l : List α} (hf : ∀ x ∈ l, SzLe f x) : SzLe (szRow f) l := fun r h => by
  unfold szRow
  split
  · omega
  · have := szGoR_le l hf (r - l.length) (by omega)
    omega
theorem szGoR_small {α : Type} {f : α → Int → Int} : ∀ (l : List α), (∀ x ∈ l, SzLe f x) → ∀ r, -1 ≤ r → 0 ≤ szGoR f l r → ∀ x ∈ l, ∃ q, -1 ≤ q ∧ q ≤ r ∧ 0 ≤ f x q
  | [], _, r, _, _, x, hx => by simp at hx
  | y :: l, hf, r, h0, h, x, hx => by
    simp only [szGoR] at h
    have h1 := hf y (List.mem_cons_self ..) r h0
    split at h
    · omega
    · rcases List.mem_cons.1 hx with rfl | hx
      · exact ⟨r, h0, Int.le_refl _, by omega⟩
      · obtain ⟨q, a, b, c⟩ := szGoR_small l (fun y hy => hf y (List.mem_cons_of_mem _ hy)) (f y r) (by omega) h x hx
        exact ⟨q, a, by omega, c⟩
theorem szRow_small {α : Type} {f : α → Int → Int} {l : List α} (hf : ∀ x ∈ l, SzLe f x) {r : Int} (h0 : -1 ≤ r) (h : 0 ≤ szRow f l r) : (l.length : Int) ≤ r ∧ ∀ x ∈ l, ∃ q, -1 ≤ q ∧ q ≤ r ∧ 0 ≤ f x q := by
  unfold szRow at h
  split at h
  · omega
  · have h1 := szGoR_le l hf (r - l.length) (by omega)
    refine ⟨by omega, fun x hx => ?_⟩
    obtain ⟨q, a, b, c⟩ := szGoR_small l hf (r - l.length) (by omega) h x hx
    exact ⟨q, a, by omega, c⟩
mutual
def szT : Typ → Int → Int
  | .mk t l _, left => if left - t.size < 0 then -1 else if szTs l (left - t.size) < 0 then -1 else szTs l (left - t.size)
def szTs : List Typ → Int → Int
  | l, left => if left - l.length < 0 then -1 else szTgo l (left - l.length)
def szTgo : List Typ → Int → Int
  | [], r => r
  | v :: l, r => if szT v r < 0 then -1 else szTgo l (szT v r)
end
theorem szTgo_eq : ∀ (l : List Typ) (r : Int), szTgo l r = szGoR szT l r
  | [], r => by simp only [szTgo, szGoR]
  | v :: l, r => by simp only [szTgo, szGoR, szTgo_eq l]
theorem szTs_eq (l : List Typ) (r : Int) : szTs l r = szRow szT l r := by
  rw [szTs, szRow, szTgo_eq]
theorem szT_le : ∀ v : Typ, SzLe szT v
  | .mk t l b => fun r h => by
    have hl : ∀ x ∈ l, SzLe szT x := fun x hx =>
      have := List.sizeOf_lt_of_mem hx
      szT_le x
    have := szRow_le hl (r - t.size)
    simp only [szT, szTs_eq]
    split
    · omega
    · split
      · omega
      · have := this (by omega); omega
termination_by v => SizeOf.sizeOf v
decreasing_by
  simp_wf
  omega
theorem szT_small : ∀ (v : Typ) (r : Int), r ≤ 1048576 → 0 ≤ szT v r → TLe 1048576 v
  | .mk t l b, r, hr, h => by
    simp only [szT, szTs_eq] at h
    split at h
    · omega
    · split at h
      · omega
      · obtain ⟨a, b⟩ := szRow_small (fun x _ => szT_le x) (r := r - t.size) (by omega) h
        refine .mk (by omega) (by omega) fun x hx => ?_
        obtain ⟨q, q1, q2, q3⟩ := b x hx
        have := List.sizeOf_lt_of_mem hx
        exact szT_small x q (by omega) q3
termination_by v => SizeOf.sizeOf v
decreasing_by
  simp_wf
  omega
end Go.Proofs.YtbmoiajdknejnaaGreat

/- Types: rows (printed by rows.py). -/
set_option linter.unusedVariables false
set_option linter.unusedSimpArgs false
set_option maxRecDepth 100000
namespace Go.Proofs.YtbmoiajdknejnaaGreat
open Go.Sh
variable {gl : Nat → Option D}
set_option maxHeartbeats 1000000 in
theorem p_szTypeS_of (l : List Typ) (hl : l.length ≤ 4611686018427387904) (ih : ∀ i (h : i < l.length) (left : Int), 0 ≤ left → left ≤ 4611686018427387904 → PCall Tryz.prog gl 270 [l[i].d, dI left] (dI (szT l[i] left))) (hle : ∀ x ∈ l, SzLe szT x) (left : Int) (h0 : 0 ≤ left) (hb : left ≤ 4611686018427387904) :
    PCall Tryz.prog gl 314 [typsD l, dI left] (dI (szRow szT l left)) := by
  refine PCall.by_ (md := []) Tryz.func314 rfl (by kernel_rfl) (n := 27) Tryz.ntmps314 (by simp) (by decide) rfl ?_
  have w0 : IntKind.i64.wrap (left - l.length) = left - l.length := wrap64 (by omega) (by omega)
  simp [w0]
  refine BrT.dec (fun h => ?_) (fun h => ?_)
  · have : szRow szT l left = -1 := by rw [szRow, if_pos (by omega)]
    simp [w0, h, this]
  have hsz : szRow szT l left = szGoR szT l (left - l.length) := by rw [szRow, if_neg (by omega)]
  simp [w0, h]
  refine LoopT.round (fun E S => ∃ (i : Nat) (r : Int), (i ≤ l.length) ∧ (0 ≤ r) ∧ (r ≤ 4611686018427387904) ∧ E 0 = some (.d (typsD l)) ∧ E 1 = some (.d (dI r)) ∧ E 5 = some (.d (dI i)) ∧ (szGoR szT (l.drop i) r = szRow szT l left)) (upTo 5 l.length) ⟨0, left - l.length, by simp [hsz]; omega⟩ ?_
  rintro E S hk ⟨i, r, hi, hr0, hr1, h0, h1, h5, hp⟩
  have hn : S.n = 27 := by first | (simpa using hk.n) | (have hh := hk.n; simp [w0, h] at hh; exact hh)
  have hg : S.gl = gl := by first | (simpa using hk.gl) | (have hh := hk.gl; simp [w0, h] at hh; exact hh)
  have hmd : S.md = [] := by first | (simpa using hk.md) | (have hh := hk.md; simp [w0, h] at hh; exact hh)
  simp [w0, h, h0, h1, h5, hn, hg, hmd]
  have w := wrap64 (n := (i : Int) + 1) (by omega) (by omega)
  refine BrT.dec (fun c => ?_) (fun c => ?_)
  · have hi2 : i < l.length := by omega
    have hlen := typsCells_len l
    have hfit : i * 3 + 3 ≤ l.length * 3 := by omega
    have hd : szGoR szT (l.drop i) r = if szT l[i] r < 0 then -1 else szGoR szT (l.drop (i + 1)) (szT l[i] r) := by
      rw [List.drop_eq_getElem_cons hi2]; simp only [szGoR]
    have hle2 := hle l[i] (List.getElem_mem hi2) r (by omega)
    simp [w0, h, h0, h1, h5, hn, hg, hmd, c, hi2, hlen, hfit, typsCells_at, tcells_len]
    repeat refine ⟨DrawT.mk (by kernel_rfl), ?_⟩
    refine CallT.p0 (ih i hi2 r hr0 hr1) (by first | rfl | (simp; done) | (simp [w0, h, h0, h1, h5, hn, hg, hmd, c]; done)) (by first | rfl | (simp; done) | (simp; rfl) | (simp [w0, h, h0, h1, h5, hn, hg, hmd, c]; done)) ?_
    simp [w0, h, h0, h1, h5, hn, hg, hmd, c]
    refine BrT.dec (fun he => ?_) (fun he => ?_)
    · rw [hd, if_pos he] at hp
      simp [w0, h, h0, h1, h5, hn, hg, hmd, c, he, hp]
    · rw [hd, if_neg he] at hp
      simp [w0, h, h0, h1, h5, hn, hg, hmd, c, he, w]
      exact ⟨⟨i + 1, by omega, szT l[i] r, by omega, by omega, rfl, by omega, hp⟩, upTo_lt h5 (by simp) hi2⟩
  · rw [List.drop_eq_nil_of_le (by omega)] at hp
    simp only [szGoR] at hp
    simp [w0, h, h0, h1, h5, hn, hg, hmd, c, ← hp]
abbrev zType : List SV := [.d (dS ⟨#[]⟩), .fl [] 0, .d (dB false)]
abbrev sType (v : Typ) : List SV := v.cells.map .d
theorem sType_len (v : Typ) : (sType v).length = 3 := by rw [List.length_map, tcells_len]
theorem sType_row (l : List Typ) : l.flatMap sType = (typsCells l).map .d := by
  rw [typsCells_row]
  induction l with
  | nil => rfl
  | cons v r ih => simp [ih]
theorem madeS_zType (n : Nat) : madeS zType 3 n = (List.replicate n zType).flatten := madeS_row zType n
set_option maxHeartbeats 1000000 in
theorem p_toTypeS_of (l : List Typ) (hl : l.length ≤ 1048576) (ih : ∀ i (h : i < l.length), PCall Tryz.prog gl 276 [l[i].d] l[i].d) : PCall Tryz.prog gl 317 [typsD l] (typsD l) := by
  refine PCall.by_ (md := []) Tryz.func317 rfl (by kernel_rfl) (n := 23) Tryz.ntmps317 (by simp) (by decide) rfl ?_
  simp
  refine ⟨by omega, ?_⟩
  refine LoopT.round (fun E S => ∃ (i : Nat), (i ≤ l.length) ∧ E 0 = some (.d (typsD l)) ∧ E 3 = some (.os 3 0 l.length) ∧ E 4 = some (.d (dI i)) ∧ S.B 3 = some (filled sType zType l i)) (upTo 4 l.length) ⟨0, by simp [filled_none, madeS_zType]⟩ ?_
  rintro E S hk ⟨i, hi, h0, h3, h4, hB3⟩
  have hn : S.n = 23 := by first | (simpa using hk.n) | (have hh := hk.n; simp at hh; exact hh)
  have hg : S.gl = gl := by first | (simpa using hk.gl) | (have hh := hk.gl; simp at hh; exact hh)
  have hmd : S.md = [] := by first | (simpa using hk.md) | (have hh := hk.md; simp at hh; exact hh)
  simp [h0, h3, h4, hB3, hn, hg, hmd]
  have w := wrap64 (n := (i : Int) + 1) (by omega) (by omega)
  refine BrT.dec (fun h => ?_) (fun h => ?_)
  · have hi2 : i < l.length := by omega
    have hlen := typsCells_len l
    have hfit : i * 3 + 3 ≤ l.length * 3 := by omega
    have hflen := filled_len (enc := sType) (z := zType) sType_len rfl l hi
    have hnext := filled_next (enc := sType) (z := zType) sType_len rfl l hi2
    simp [h0, h3, h4, hB3, hn, hg, hmd, h, hi2, hlen, hfit, typsCells_at, tcells_len]
    repeat refine ⟨DrawT.mk (by kernel_rfl), ?_⟩
    refine CallT.p0 (ih i hi2) (by first | rfl | (simp; done) | (simp [h0, h3, h4, hB3, hn, hg, hmd, h]; done)) (by first | rfl | (simp; done) | (simp; rfl) | (simp [h0, h3, h4, hB3, hn, hg, hmd, h]; done)) ?_
    simp [h0, h3, h4, hB3, hn, hg, hmd, h,  hi2, w, hflen, hfit, tcells_len]
    refine ⟨⟨i + 1, by omega, by omega, ?_⟩, upTo_lt h4 (by simp) hi2⟩
    rw [← hnext]
    simp
  · have hi3 : i = l.length := by omega
    subst hi3
    rw [filled_all, sType_row] at hB3
    simp [h0, h3, h4, hB3, hn, hg, hmd, h]
set_option maxHeartbeats 1000000 in
theorem p_eqTypeS_of (l : List Typ) (hl : l.length ≤ 4611686018427387904) (ih : ∀ i (h : i < l.length), PCall Tryz.prog gl 283 [l[i].d, l[i].d] (dB true)) : PCall Tryz.prog gl 324 [typsD l, typsD l] (dB true) := by
  refine PCall.by_ (md := []) Tryz.func324 rfl (by kernel_rfl) (n := 27) Tryz.ntmps324 (by simp) (by decide) rfl ?_
  simp
  refine LoopT.round (fun E S => ∃ (i : Nat), (i ≤ l.length) ∧ E 0 = some (.d (typsD l)) ∧ E 1 = some (.d (typsD l)) ∧ E 5 = some (.d (dI i))) (upTo 5 l.length) ⟨0, by simp⟩ ?_
  rintro E S hk ⟨i, hi, h0, h1, h5⟩
  have hn : S.n = 27 := by first | (simpa using hk.n) | (have hh := hk.n; simp at hh; exact hh)
  have hg : S.gl = gl := by first | (simpa using hk.gl) | (have hh := hk.gl; simp at hh; exact hh)
  have hmd : S.md = [] := by first | (simpa using hk.md) | (have hh := hk.md; simp at hh; exact hh)
  simp [h0, h1, h5, hn, hg, hmd]
  have w := wrap64 (n := (i : Int) + 1) (by omega) (by omega)
  refine BrT.dec (fun h => ?_) (fun h => ?_)
  · have hi2 : i < l.length := by omega
    have hlen := typsCells_len l
    have hfit : i * 3 + 3 ≤ l.length * 3 := by omega
    simp [h0, h1, h5, hn, hg, hmd, h, hi2, hlen, hfit, typsCells_at, tcells_len]
    repeat refine ⟨DrawT.mk (by kernel_rfl), ?_⟩
    refine CallT.p0 (ih i hi2) (by first | rfl | (simp; done) | (simp [h0, h1, h5, hn, hg, hmd, h]; done)) (by first | rfl | (simp; done) | (simp; rfl) | (simp [h0, h1, h5, hn, hg, hmd, h]; done)) ?_
    simp [h0, h1, h5, hn, hg, hmd, h,  w]
    exact ⟨⟨i + 1, by omega, by omega⟩, upTo_lt h5 (by simp) hi2⟩
  · simp [h0, h1, h5, hn, hg, hmd, h]
end Go.Proofs.YtbmoiajdknejnaaGreat

/- Types and arguments: sizes, copies, comparisons. -/
set_option linter.unusedVariables false
set_option linter.unusedSimpArgs false
set_option maxRecDepth 100000
namespace Go.Proofs.YtbmoiajdknejnaaGreat
open Go.Sh
variable {gl : Nat → Option D}
set_option maxHeartbeats 1000000 in
theorem p_szType (v : Typ) (hv : TLe 4611686018427387904 v) (left : Int) (h0 : 0 ≤ left) (hb : left ≤ 4611686018427387904) : PCall Tryz.prog gl 270 [v.d, dI left] (dI (szT v left)) := by
  match v, hv with
  | .mk t l b, .mk ht hl hwf =>
    have hs := p_szTypeS_of (gl := gl) l hl (fun i hi left a b =>
      have := List.sizeOf_lt_of_mem (List.getElem_mem hi)
      p_szType l[i] (hwf _ (List.getElem_mem hi)) left a b) (fun x _ => szT_le x)
    refine PCall.by_ (md := []) Tryz.func270 rfl (by kernel_rfl) (n := 19) Tryz.ntmps270 (by simp) (by decide) rfl ?_
    have w0 : IntKind.i64.wrap (left - t.size) = left - t.size := wrap64 (by omega) (by omega)
    simp [w0, Typ.cells]
    refine BrT.dec (fun h => ?_) (fun h => ?_)
    case refine_1 => simp [w0, h, szT] <;> omega
    simp [w0, h]
    repeat refine ⟨DrawT.mk (by kernel_rfl), ?_⟩
    refine CallT.p0 (hs (left - t.size) (by omega) (by omega)) (by first | rfl | (simp; done) | (simp [w0, h]; done)) (by first | rfl | (simp; done) | (simp; rfl) | (simp [w0, h]; done)) ?_
    simp [w0, h]
    have e : szT (.mk t l b) left = if szRow szT l (left - t.size) < 0 then -1 else szRow szT l (left - t.size) := by
      rw [szT, if_neg (by omega), szTs_eq]
    refine BrT.dec (fun h1 => ?_) (fun h1 => ?_)
    case refine_1 => simp [w0, h, h1, e]
    simp [w0, h, h1, e]
  termination_by SizeOf.sizeOf v
  decreasing_by
  simp_wf
  omega
set_option maxHeartbeats 1000000 in
theorem p_toType (v : Typ) (hv : TLe 1048576 v) : PCall Tryz.prog gl 276 [v.d] v.d := by
  match v, hv with
  | .mk t l b, .mk ht hl hwf =>
    have hs := p_toTypeS_of (gl := gl) l hl (fun i hi =>
      have := List.sizeOf_lt_of_mem (List.getElem_mem hi)
      p_toType l[i] (hwf _ (List.getElem_mem hi)))
    refine PCall.by_ (md := []) Tryz.func276 rfl (by kernel_rfl) (n := 15) Tryz.ntmps276 (by simp) (by decide) rfl ?_
    simp [Typ.cells]
    repeat refine ⟨DrawT.mk (by kernel_rfl), ?_⟩
    refine CallT.p0 (hs) (by first | rfl | (simp; done) | (simp; done)) (by first | rfl | (simp; done) | (simp; rfl) | (simp; done)) ?_
    simp [ Typ.cells]
  termination_by SizeOf.sizeOf v
  decreasing_by
  simp_wf
  omega
set_option maxHeartbeats 1000000 in
theorem p_eqType (v : Typ) (hv : TLe 4611686018427387904 v) : PCall Tryz.prog gl 283 [v.d, v.d] (dB true) := by
  match v, hv with
  | .mk t l b, .mk ht hl hwf =>
    have hs := p_eqTypeS_of (gl := gl) l hl (fun i hi =>
      have := List.sizeOf_lt_of_mem (List.getElem_mem hi)
      p_eqType l[i] (hwf _ (List.getElem_mem hi)))
    refine PCall.by_ (md := []) Tryz.func283 rfl (by kernel_rfl) (n := 21) Tryz.ntmps283 (by simp) (by decide) rfl ?_
    simp [Typ.cells]
    repeat refine ⟨DrawT.mk (by kernel_rfl), ?_⟩
    refine CallT.p0 (hs) (by first | rfl | (simp; done) | (simp; done)) (by first | rfl | (simp; done) | (simp; rfl) | (simp; done)) ?_
    simp [ Typ.cells]
  termination_by SizeOf.sizeOf v
  decreasing_by
  simp_wf
  omega
/-- An argument: name, type, is there an else, the else. -/
structure Arg where
  name : ByteArray
  ty : Typ
  has : Bool
  els : Val
def Arg.cells (a : Arg) : List D := dS a.name :: (a.ty.cells ++ dB a.has :: a.els.cells)
abbrev Arg.d (a : Arg) : D := .agg a.cells
def argsCells (l : List Arg) : List D := l.flatMap Arg.cells
abbrev argsD (l : List Arg) : D := .ps (argsCells l) l.length
theorem acells_len (a : Arg) : a.cells.length = 10 := by simp [Arg.cells, cells_len, tcells_len]
@[simp] theorem take_acells (v : Arg) : v.cells.take 10 = v.cells := List.take_of_length_le (by rw [acells_len]; exact Nat.le_refl _)
@[simp] theorem take_acellsS (v : Arg) : (v.cells.map SV.d).take 10 = v.cells.map SV.d := List.take_of_length_le (by rw [List.length_map, acells_len]; exact Nat.le_refl _)
theorem args_row (l : List Arg) : argsCells l = l.flatMap Arg.cells := rfl
theorem args_len (l : List Arg) : (argsCells l).length = l.length * 10 := row_len acells_len l
theorem args_at (l : List Arg) {i : Nat} (hi : i < l.length) : ((argsCells l).drop (i * 10)).take 10 = (l[i]).cells := row_at acells_len l i hi
structure ALe (n : Nat) (a : Arg) : Prop where
  name : a.name.size ≤ n
  ty : TLe n a.ty
/-- Fit to be counted. -/
def ArgOk (a : Arg) : Prop := a.name.size ≤ 4611686018427387904 ∧ TLe 4611686018427387904 a.ty ∧ WF a.els
def ArgSm (a : Arg) : Prop := a.name.size ≤ 1048576 ∧ TLe 1048576 a.ty ∧ Small a.els
def szA (a : Arg) (left : Int) : Int := if left - a.name.size < 0 then -1 else if szT a.ty (left - a.name.size) < 0 then -1 else if szV a.els (szT a.ty (left - a.name.size)) < 0 then -1 else szV a.els (szT a.ty (left - a.name.size))
theorem szA_le (a : Arg) : SzLe szA a := fun r h => by
  unfold szA
  split
  · omega
  · have h1 := szT_le a.ty (r - a.name.size) (by omega)
    split
    · omega
    · have h2 := szV_le a.els (szT a.ty (r - a.name.size)) (by omega)
      split <;> omega
theorem szA_small (a : Arg) (r : Int) (hr : r ≤ 1048576) (h : 0 ≤ szA a r) : ArgSm a := by
  unfold szA at h
  split at h
  · omega
  · have h1 := szT_le a.ty (r - a.name.size) (by omega)
    split at h
    · omega
    · have h2 := szV_le a.els (szT a.ty (r - a.name.size)) (by omega)
      split at h
      · omega
      · exact ⟨by omega, szT_small _ (r - a.name.size) (by omega) (by omega), szV_small _ (szT a.ty (r - a.name.size)) (by omega) (by omega)⟩
theorem TLe.big {v : Typ} (h : TLe 1048576 v) : TLe 4611686018427387904 v := h.mono (by omega)
theorem arg_ok {a : Arg} (h : ArgSm a) : ArgOk a := ⟨by have := h.1; omega, h.2.1.big, small_wf h.2.2⟩
end Go.Proofs.YtbmoiajdknejnaaGreat

/- Arguments: rows (printed by rows.py). -/
set_option linter.unusedVariables false
set_option linter.unusedSimpArgs false
set_option maxRecDepth 100000
namespace Go.Proofs.YtbmoiajdknejnaaGreat
open Go.Sh
variable {gl : Nat → Option D}
abbrev zArg : List SV := [.d (dS ⟨#[]⟩), .d (dS ⟨#[]⟩), .fl [] 0, .d (dB false), .d (dB false), .d (dI 0), .d (dI 0), .d (dS ⟨#[]⟩), .fl [] 0, .fl [] 0]
abbrev sArg (v : Arg) : List SV := v.cells.map .d
end Go.Proofs.YtbmoiajdknejnaaGreat

/- Give: data, sizes, copies, comparisons (printed by docs.py). -/
set_option linter.unusedVariables false
set_option linter.unusedSimpArgs false
set_option maxRecDepth 100000
namespace Go.Proofs.YtbmoiajdknejnaaGreat
open Go.Sh
variable {gl : Nat → Option D}
/-- Steps, each of which may end it. -/
def chain : List (Int → Int) → Int → Int
  | [], r => r
  | f :: fs, r => if f r < 0 then -1 else chain fs (f r)
theorem chain_nil (r : Int) : chain [] r = r := rfl
theorem chain_cons (f : Int → Int) (fs : List (Int → Int)) (r : Int) : chain (f :: fs) r = if f r < 0 then -1 else chain fs (f r) := rfl
theorem chain_le : ∀ {fs : List (Int → Int)}, (∀ f ∈ fs, ∀ r, -1 ≤ r → f r ≤ r) → ∀ r, -1 ≤ r → -1 ≤ chain fs r ∧ chain fs r ≤ r
  | [], _, r, h => by rw [chain_nil]; omega
  | f :: fs, hf, r, h => by
    rw [chain_cons]
    have h1 := hf f List.mem_cons_self r h
    split
    · omega
    · have := chain_le (fs := fs) (fun g hg => hf g (List.mem_cons_of_mem _ hg)) (f r) (by omega)
      omega
theorem chain_small : ∀ {fs : List (Int → Int)}, (∀ f ∈ fs, ∀ r, -1 ≤ r → f r ≤ r) → ∀ r, -1 ≤ r → 0 ≤ chain fs r → ∀ f ∈ fs, ∃ q, -1 ≤ q ∧ q ≤ r ∧ 0 ≤ f q
  | [], _, r, _, _, f, hf => by simp at hf
  | g :: fs, hg, r, h0, h, f, hf => by
    rw [chain_cons] at h
    have h1 := hg g List.mem_cons_self r h0
    split at h
    · omega
    · rcases List.mem_cons.1 hf with rfl | hf
      · exact ⟨r, h0, by omega, by omega⟩
      · obtain ⟨q, a, b, c⟩ := chain_small (fs := fs) (fun g hg' => hg g (List.mem_cons_of_mem _ hg')) (g r) (by omega) h f hf
        exact ⟨q, a, by omega, c⟩
theorem sub_le (s : ByteArray) : ∀ r : Int, -1 ≤ r → r - s.size ≤ r := fun r _ => by omega
theorem szv_le {α : Type} {f : α → Int → Int} {x : α} (h : SzLe f x) : ∀ r : Int, -1 ≤ r → f x r ≤ r := fun r hr => (h r hr).2
theorem row_le {α : Type} {f : α → Int → Int} {l : List α} (h : ∀ x ∈ l, SzLe f x) : ∀ r : Int, -1 ≤ r → szRow f l r ≤ r := fun r hr => (szRow_le h r hr).2
structure Giv where
  name : ByteArray
  val : Val
def Giv.cells (a : Giv) : List D := [dS a.name] ++ a.val.cells
abbrev Giv.d (a : Giv) : D := .agg a.cells
def givesCells (l : List Giv) : List D := l.flatMap Giv.cells
abbrev givesD (l : List Giv) : D := .ps (givesCells l) l.length
theorem giv_clen (a : Giv) : a.cells.length = 6 := by simp [Giv.cells, tcells_len, cells_len]
theorem giv_row (l : List Giv) : givesCells l = l.flatMap Giv.cells := rfl
@[simp] theorem take_givc (v : Giv) : v.cells.take 6 = v.cells := List.take_of_length_le (by rw [giv_clen]; exact Nat.le_refl _)
@[simp] theorem take_givcS (v : Giv) : (v.cells.map SV.d).take 6 = v.cells.map SV.d := List.take_of_length_le (by rw [List.length_map, giv_clen]; exact Nat.le_refl _)
theorem giv_len (l : List Giv) : (givesCells l).length = l.length * 6 := by rw [giv_row, row_len giv_clen]
theorem giv_at (l : List Giv) {i : Nat} (hi : i < l.length) : ((givesCells l).drop (i * 6)).take 6 = (l[i]).cells := by rw [giv_row, row_at giv_clen l i hi]
structure GivOk (a : Giv) : Prop where
  name : a.name.size ≤ 4611686018427387904
  val : WF a.val
structure GivSm (a : Giv) : Prop where
  name : a.name.size ≤ 1048576
  val : Small a.val
def szG (a : Giv) (left : Int) : Int := chain [fun r : Int => r - a.name.size, szV a.val] left
theorem szG_steps (a : Giv) : ∀ g ∈ [fun r : Int => r - a.name.size, szV a.val], ∀ r : Int, -1 ≤ r → g r ≤ r := by
  intro g hg
  simp only [List.mem_cons, List.not_mem_nil, or_false] at hg
  rcases hg with rfl | rfl
  · exact sub_le a.name
  · exact szv_le (szV_le a.val)
theorem szG_le (a : Giv) : SzLe szG a := fun r h => chain_le (szG_steps a) r h
theorem szG_small (a : Giv) (r : Int) (hr : r ≤ 1048576) (h : 0 ≤ szG a r) (h0 : -1 ≤ r) : GivSm a := by
  have key := chain_small (szG_steps a) r h0 h
  obtain ⟨q0, a0, b0, c0⟩ := key (fun r : Int => r - a.name.size) (by simp)
  obtain ⟨q1, a1, b1, c1⟩ := key (szV a.val) (by simp)
  exact ⟨by first | omega | (simp only at c0; omega), szV_small _ q1 (by omega) c1⟩
theorem giv_ok {a : Giv} (h : GivSm a) : GivOk a := ⟨by have := h.name; omega, small_wf h.val⟩
set_option maxHeartbeats 1000000 in
theorem p_szGiveS_of (l : List Giv) (hl : l.length ≤ 4611686018427387904) (ih : ∀ i (h : i < l.length) (left : Int), 0 ≤ left → left ≤ 4611686018427387904 → PCall Tryz.prog gl 315 [l[i].d, dI left] (dI (szG l[i] left))) (hle : ∀ x ∈ l, SzLe szG x) (left : Int) (h0 : 0 ≤ left) (hb : left ≤ 4611686018427387904) :
    PCall Tryz.prog gl 271 [givesD l, dI left] (dI (szRow szG l left)) := by
  refine PCall.by_ (md := []) Tryz.func271 rfl (by kernel_rfl) (n := 27) Tryz.ntmps271 (by simp) (by decide) rfl ?_
  have w0 : IntKind.i64.wrap (left - l.length) = left - l.length := wrap64 (by omega) (by omega)
  simp [w0]
  refine BrT.dec (fun h => ?_) (fun h => ?_)
  · have : szRow szG l left = -1 := by rw [szRow, if_pos (by omega)]
    simp [w0, h, this]
  have hsz : szRow szG l left = szGoR szG l (left - l.length) := by rw [szRow, if_neg (by omega)]
  simp [w0, h]
  refine LoopT.round (fun E S => ∃ (i : Nat) (r : Int), (i ≤ l.length) ∧ (0 ≤ r) ∧ (r ≤ 4611686018427387904) ∧ E 0 = some (.d (givesD l)) ∧ E 1 = some (.d (dI r)) ∧ E 5 = some (.d (dI i)) ∧ (szGoR szG (l.drop i) r = szRow szG l left)) (upTo 5 l.length) ⟨0, left - l.length, by simp [hsz]; omega⟩ ?_
  rintro E S hk ⟨i, r, hi, hr0, hr1, h0, h1, h5, hp⟩
  have hn : S.n = 27 := by first | (simpa using hk.n) | (have hh := hk.n; simp [w0, h] at hh; exact hh)
  have hg : S.gl = gl := by first | (simpa using hk.gl) | (have hh := hk.gl; simp [w0, h] at hh; exact hh)
  have hmd : S.md = [] := by first | (simpa using hk.md) | (have hh := hk.md; simp [w0, h] at hh; exact hh)
  simp [w0, h, h0, h1, h5, hn, hg, hmd]
  have w := wrap64 (n := (i : Int) + 1) (by omega) (by omega)
  refine BrT.dec (fun c => ?_) (fun c => ?_)
  · have hi2 : i < l.length := by omega
    have hlen := giv_len l
    have hfit : i * 6 + 6 ≤ l.length * 6 := by omega
    have hd : szGoR szG (l.drop i) r = if szG l[i] r < 0 then -1 else szGoR szG (l.drop (i + 1)) (szG l[i] r) := by
      rw [List.drop_eq_getElem_cons hi2]; simp only [szGoR]
    have hle2 := hle l[i] (List.getElem_mem hi2) r (by omega)
    simp [w0, h, h0, h1, h5, hn, hg, hmd, c, hi2, hlen, hfit, giv_at, giv_clen]
    repeat refine ⟨DrawT.mk (by kernel_rfl), ?_⟩
    refine CallT.p0 (ih i hi2 r hr0 hr1) (by first | rfl | (simp; done) | (simp [w0, h, h0, h1, h5, hn, hg, hmd, c]; done)) (by first | rfl | (simp; done) | (simp; rfl) | (simp [w0, h, h0, h1, h5, hn, hg, hmd, c]; done)) ?_
    simp [w0, h, h0, h1, h5, hn, hg, hmd, c]
    refine BrT.dec (fun he => ?_) (fun he => ?_)
    · rw [hd, if_pos he] at hp
      simp [w0, h, h0, h1, h5, hn, hg, hmd, c, he, hp]
    · rw [hd, if_neg he] at hp
      simp [w0, h, h0, h1, h5, hn, hg, hmd, c, he, w]
      exact ⟨⟨i + 1, by omega, szG l[i] r, by omega, by omega, rfl, by omega, hp⟩, upTo_lt h5 (by simp) hi2⟩
  · rw [List.drop_eq_nil_of_le (by omega)] at hp
    simp only [szGoR] at hp
    simp [w0, h, h0, h1, h5, hn, hg, hmd, c, ← hp]
abbrev zGive : List SV := [.d (dS ⟨#[]⟩), .d (dI 0), .d (dI 0), .d (dS ⟨#[]⟩), .fl [] 0, .fl [] 0]
abbrev sGive (v : Giv) : List SV := v.cells.map .d
theorem sGive_len (v : Giv) : (sGive v).length = 6 := by rw [List.length_map, giv_clen]
theorem sGive_row (l : List Giv) : l.flatMap sGive = (givesCells l).map .d := by
  rw [giv_row]
  induction l with
  | nil => rfl
  | cons v r ih => simp [ih]
theorem madeS_zGive (n : Nat) : madeS zGive 6 n = (List.replicate n zGive).flatten := madeS_row zGive n
set_option maxHeartbeats 1000000 in
theorem p_toGiveS_of (l : List Giv) (hl : l.length ≤ 1048576) (ih : ∀ i (h : i < l.length), PCall Tryz.prog gl 318 [l[i].d] l[i].d) : PCall Tryz.prog gl 277 [givesD l] (givesD l) := by
  refine PCall.by_ (md := []) Tryz.func277 rfl (by kernel_rfl) (n := 23) Tryz.ntmps277 (by simp) (by decide) rfl ?_
  simp
  refine ⟨by omega, ?_⟩
  refine LoopT.round (fun E S => ∃ (i : Nat), (i ≤ l.length) ∧ E 0 = some (.d (givesD l)) ∧ E 3 = some (.os 3 0 l.length) ∧ E 4 = some (.d (dI i)) ∧ S.B 3 = some (filled sGive zGive l i)) (upTo 4 l.length) ⟨0, by simp [filled_none, madeS_zGive]⟩ ?_
  rintro E S hk ⟨i, hi, h0, h3, h4, hB3⟩
  have hn : S.n = 23 := by first | (simpa using hk.n) | (have hh := hk.n; simp at hh; exact hh)
  have hg : S.gl = gl := by first | (simpa using hk.gl) | (have hh := hk.gl; simp at hh; exact hh)
  have hmd : S.md = [] := by first | (simpa using hk.md) | (have hh := hk.md; simp at hh; exact hh)
  simp [h0, h3, h4, hB3, hn, hg, hmd]
  have w := wrap64 (n := (i : Int) + 1) (by omega) (by omega)
  refine BrT.dec (fun h => ?_) (fun h => ?_)
  · have hi2 : i < l.length := by omega
    have hlen := giv_len l
    have hfit : i * 6 + 6 ≤ l.length * 6 := by omega
    have hflen := filled_len (enc := sGive) (z := zGive) sGive_len rfl l hi
    have hnext := filled_next (enc := sGive) (z := zGive) sGive_len rfl l hi2
    simp [h0, h3, h4, hB3, hn, hg, hmd, h, hi2, hlen, hfit, giv_at, giv_clen]
    repeat refine ⟨DrawT.mk (by kernel_rfl), ?_⟩
    refine CallT.p0 (ih i hi2) (by first | rfl | (simp; done) | (simp [h0, h3, h4, hB3, hn, hg, hmd, h]; done)) (by first | rfl | (simp; done) | (simp; rfl) | (simp [h0, h3, h4, hB3, hn, hg, hmd, h]; done)) ?_
    simp [h0, h3, h4, hB3, hn, hg, hmd, h,  hi2, w, hflen, hfit, giv_clen]
    refine ⟨⟨i + 1, by omega, by omega, ?_⟩, upTo_lt h4 (by simp) hi2⟩
    rw [← hnext]
    simp
  · have hi3 : i = l.length := by omega
    subst hi3
    rw [filled_all, sGive_row] at hB3
    simp [h0, h3, h4, hB3, hn, hg, hmd, h]
set_option maxHeartbeats 1000000 in
theorem p_eqGiveS_of (l : List Giv) (hl : l.length ≤ 4611686018427387904) (ih : ∀ i (h : i < l.length), PCall Tryz.prog gl 325 [l[i].d, l[i].d] (dB true)) : PCall Tryz.prog gl 284 [givesD l, givesD l] (dB true) := by
  refine PCall.by_ (md := []) Tryz.func284 rfl (by kernel_rfl) (n := 27) Tryz.ntmps284 (by simp) (by decide) rfl ?_
  simp
  refine LoopT.round (fun E S => ∃ (i : Nat), (i ≤ l.length) ∧ E 0 = some (.d (givesD l)) ∧ E 1 = some (.d (givesD l)) ∧ E 5 = some (.d (dI i))) (upTo 5 l.length) ⟨0, by simp⟩ ?_
  rintro E S hk ⟨i, hi, h0, h1, h5⟩
  have hn : S.n = 27 := by first | (simpa using hk.n) | (have hh := hk.n; simp at hh; exact hh)
  have hg : S.gl = gl := by first | (simpa using hk.gl) | (have hh := hk.gl; simp at hh; exact hh)
  have hmd : S.md = [] := by first | (simpa using hk.md) | (have hh := hk.md; simp at hh; exact hh)
  simp [h0, h1, h5, hn, hg, hmd]
  have w := wrap64 (n := (i : Int) + 1) (by omega) (by omega)
  refine BrT.dec (fun h => ?_) (fun h => ?_)
  · have hi2 : i < l.length := by omega
    have hlen := giv_len l
    have hfit : i * 6 + 6 ≤ l.length * 6 := by omega
    simp [h0, h1, h5, hn, hg, hmd, h, hi2, hlen, hfit, giv_at, giv_clen]
    repeat refine ⟨DrawT.mk (by kernel_rfl), ?_⟩
    refine CallT.p0 (ih i hi2) (by first | rfl | (simp; done) | (simp [h0, h1, h5, hn, hg, hmd, h]; done)) (by first | rfl | (simp; done) | (simp; rfl) | (simp [h0, h1, h5, hn, hg, hmd, h]; done)) ?_
    simp [h0, h1, h5, hn, hg, hmd, h,  w]
    exact ⟨⟨i + 1, by omega, by omega⟩, upTo_lt h5 (by simp) hi2⟩
  · simp [h0, h1, h5, hn, hg, hmd, h]
set_option maxHeartbeats 1000000 in
theorem p_szGive (a : Giv) (hv : GivOk a) (left : Int) (h0 : 0 ≤ left) (hb : left ≤ 4611686018427387904) : PCall Tryz.prog gl 315 [a.d, dI left] (dI (szG a left)) := by
  have kname := hv.name
  have kval := fun r (h0 : 0 ≤ r) hb => p_szValue (gl := gl) a.val hv.val r h0 hb
  have lval := szV_le a.val
  have hsz : szG a left = chain [fun r : Int => r - a.name.size, szV a.val] left := rfl
  obtain ⟨name, val⟩ := a
  simp only at hsz kname kval lval
  cases val with
  | mk vkval vnval vtval vlval vsval =>
  generalize szG _ left = z at hsz ⊢
  refine PCall.by_ (md := []) Tryz.func315 rfl (by kernel_rfl) (n := 19) Tryz.ntmps315 (by simp) (by decide) rfl ?_
  rw [chain_cons] at hsz
  have w0 : IntKind.i64.wrap (left - name.size) = left - name.size := wrap64 (by omega) (by omega)
  simp [Giv.cells, Val.cells, w0]
  refine BrT.dec (fun h0 => ?_) (fun h0 => ?_)
  case refine_1 => (rw [if_pos (by omega)] at hsz; simp [Giv.cells, Val.cells, w0, h0, hsz])
  rw [if_neg (by omega)] at hsz
  obtain ⟨r0, hr0⟩ : ∃ r, left - name.size = r := ⟨_, rfl⟩
  rw [hr0] at hsz
  rw [chain_cons] at hsz
  simp [Giv.cells, Val.cells, w0, h0, hr0]
  have c1 := kval r0 (by omega) (by omega)
  have d1 := lval r0 (by omega)
  generalize szV _ r0 = r1 at hsz c1 d1
  repeat refine ⟨DrawT.mk (by kernel_rfl), ?_⟩
  refine CallT.p0 (c1) (by first | rfl | (simp; done) | (simp [Giv.cells, Val.cells, w0, h0, hr0]; done)) (by first | rfl | (simp; done) | (simp; rfl) | (simp [Giv.cells, Val.cells, w0, h0, hr0]; done)) ?_
  simp [Giv.cells, Val.cells, w0, h0, hr0]
  refine BrT.dec (fun h1 => ?_) (fun h1 => ?_)
  case refine_1 => (rw [if_pos h1] at hsz; simp [Giv.cells, Val.cells, w0, h0, hr0, h1, hsz])
  rw [if_neg h1] at hsz
  rw [chain_nil] at hsz
  simp [Giv.cells, Val.cells, w0, h0, hr0, h1, hsz]
set_option maxHeartbeats 1000000 in
theorem p_toGive (a : Giv) (hv : GivSm a) : PCall Tryz.prog gl 318 [a.d] a.d := by
  have kval := p_toValue (gl := gl) a.val hv.val
  obtain ⟨name, val⟩ := a
  cases val with
  | mk vkval vnval vtval vlval vsval =>
  refine PCall.by_ (md := []) Tryz.func318 rfl (by kernel_rfl) (n := 12) Tryz.ntmps318 (by simp) (by decide) rfl ?_
  simp [Giv.cells, Val.cells]
  repeat refine ⟨DrawT.mk (by kernel_rfl), ?_⟩
  refine CallT.p0 (kval) (by first | rfl | (simp; done) | (simp [Giv.cells, Val.cells]; done)) (by first | rfl | (simp; done) | (simp; rfl) | (simp [Giv.cells, Val.cells]; done)) ?_
  simp [Giv.cells, Val.cells]
set_option maxHeartbeats 1000000 in
theorem p_eqGive (a : Giv) (hv : GivOk a) : PCall Tryz.prog gl 325 [a.d, a.d] (dB true) := by
  have kval := p_eqValue (gl := gl) a.val hv.val
  obtain ⟨name, val⟩ := a
  cases val with
  | mk vkval vnval vtval vlval vsval =>
  refine PCall.by_ (md := []) Tryz.func325 rfl (by kernel_rfl) (n := 16) Tryz.ntmps325 (by simp) (by decide) rfl ?_
  simp [Giv.cells, Val.cells]
  repeat refine ⟨DrawT.mk (by kernel_rfl), ?_⟩
  refine CallT.p0 (kval) (by first | rfl | (simp; done) | (simp [Giv.cells, Val.cells]; done)) (by first | rfl | (simp; done) | (simp; rfl) | (simp [Giv.cells, Val.cells]; done)) ?_
  simp [Giv.cells, Val.cells]
end Go.Proofs.YtbmoiajdknejnaaGreat

/- When: data, sizes, copies, comparisons (printed by docs.py). -/
set_option linter.unusedVariables false
set_option linter.unusedSimpArgs false
set_option maxRecDepth 100000
namespace Go.Proofs.YtbmoiajdknejnaaGreat
open Go.Sh
variable {gl : Nat → Option D}
structure Whn where
  neg : Bool
  val : Val
def Whn.cells (a : Whn) : List D := [dB a.neg] ++ a.val.cells
abbrev Whn.d (a : Whn) : D := .agg a.cells
def whensCells (l : List Whn) : List D := l.flatMap Whn.cells
abbrev whensD (l : List Whn) : D := .ps (whensCells l) l.length
theorem whn_clen (a : Whn) : a.cells.length = 6 := by simp [Whn.cells, tcells_len, cells_len]
theorem whn_row (l : List Whn) : whensCells l = l.flatMap Whn.cells := rfl
@[simp] theorem take_whnc (v : Whn) : v.cells.take 6 = v.cells := List.take_of_length_le (by rw [whn_clen]; exact Nat.le_refl _)
@[simp] theorem take_whncS (v : Whn) : (v.cells.map SV.d).take 6 = v.cells.map SV.d := List.take_of_length_le (by rw [List.length_map, whn_clen]; exact Nat.le_refl _)
theorem whn_len (l : List Whn) : (whensCells l).length = l.length * 6 := by rw [whn_row, row_len whn_clen]
theorem whn_at (l : List Whn) {i : Nat} (hi : i < l.length) : ((whensCells l).drop (i * 6)).take 6 = (l[i]).cells := by rw [whn_row, row_at whn_clen l i hi]
structure WhnOk (a : Whn) : Prop where
  val : WF a.val
structure WhnSm (a : Whn) : Prop where
  val : Small a.val
def szW (a : Whn) (left : Int) : Int := chain [szV a.val] left
theorem szW_steps (a : Whn) : ∀ g ∈ [szV a.val], ∀ r : Int, -1 ≤ r → g r ≤ r := by
  intro g hg
  simp only [List.mem_cons, List.not_mem_nil, or_false] at hg
  rcases hg with rfl
  · exact szv_le (szV_le a.val)
theorem szW_le (a : Whn) : SzLe szW a := fun r h => chain_le (szW_steps a) r h
theorem szW_small (a : Whn) (r : Int) (hr : r ≤ 1048576) (h : 0 ≤ szW a r) (h0 : -1 ≤ r) : WhnSm a := by
  have key := chain_small (szW_steps a) r h0 h
  obtain ⟨q0, a0, b0, c0⟩ := key (szV a.val) (by simp)
  exact ⟨szV_small _ q0 (by omega) c0⟩
theorem whn_ok {a : Whn} (h : WhnSm a) : WhnOk a := ⟨small_wf h.val⟩
set_option maxHeartbeats 1000000 in
theorem p_szWhenS_of (l : List Whn) (hl : l.length ≤ 4611686018427387904) (ih : ∀ i (h : i < l.length) (left : Int), 0 ≤ left → left ≤ 4611686018427387904 → PCall Tryz.prog gl 316 [l[i].d, dI left] (dI (szW l[i] left))) (hle : ∀ x ∈ l, SzLe szW x) (left : Int) (h0 : 0 ≤ left) (hb : left ≤ 4611686018427387904) :
    PCall Tryz.prog gl 272 [whensD l, dI left] (dI (szRow szW l left)) := by
  refine PCall.by_ (md := []) Tryz.func272 rfl (by kernel_rfl) (n := 27) Tryz.ntmps272 (by simp) (by decide) rfl ?_
  have w0 : IntKind.i64.wrap (left - l.length) = left - l.length := wrap64 (by omega) (by omega)
  simp [w0]
  refine BrT.dec (fun h => ?_) (fun h => ?_)
  · have : szRow szW l left = -1 := by rw [szRow, if_pos (by omega)]
    simp [w0, h, this]
  have hsz : szRow szW l left = szGoR szW l (left - l.length) := by rw [szRow, if_neg (by omega)]
  simp [w0, h]
  refine LoopT.round (fun E S => ∃ (i : Nat) (r : Int), (i ≤ l.length) ∧ (0 ≤ r) ∧ (r ≤ 4611686018427387904) ∧ E 0 = some (.d (whensD l)) ∧ E 1 = some (.d (dI r)) ∧ E 5 = some (.d (dI i)) ∧ (szGoR szW (l.drop i) r = szRow szW l left)) (upTo 5 l.length) ⟨0, left - l.length, by simp [hsz]; omega⟩ ?_
  rintro E S hk ⟨i, r, hi, hr0, hr1, h0, h1, h5, hp⟩
  have hn : S.n = 27 := by first | (simpa using hk.n) | (have hh := hk.n; simp [w0, h] at hh; exact hh)
  have hg : S.gl = gl := by first | (simpa using hk.gl) | (have hh := hk.gl; simp [w0, h] at hh; exact hh)
  have hmd : S.md = [] := by first | (simpa using hk.md) | (have hh := hk.md; simp [w0, h] at hh; exact hh)
  simp [w0, h, h0, h1, h5, hn, hg, hmd]
  have w := wrap64 (n := (i : Int) + 1) (by omega) (by omega)
  refine BrT.dec (fun c => ?_) (fun c => ?_)
  · have hi2 : i < l.length := by omega
    have hlen := whn_len l
    have hfit : i * 6 + 6 ≤ l.length * 6 := by omega
    have hd : szGoR szW (l.drop i) r = if szW l[i] r < 0 then -1 else szGoR szW (l.drop (i + 1)) (szW l[i] r) := by
      rw [List.drop_eq_getElem_cons hi2]; simp only [szGoR]
    have hle2 := hle l[i] (List.getElem_mem hi2) r (by omega)
    simp [w0, h, h0, h1, h5, hn, hg, hmd, c, hi2, hlen, hfit, whn_at, whn_clen]
    repeat refine ⟨DrawT.mk (by kernel_rfl), ?_⟩
    refine CallT.p0 (ih i hi2 r hr0 hr1) (by first | rfl | (simp; done) | (simp [w0, h, h0, h1, h5, hn, hg, hmd, c]; done)) (by first | rfl | (simp; done) | (simp; rfl) | (simp [w0, h, h0, h1, h5, hn, hg, hmd, c]; done)) ?_
    simp [w0, h, h0, h1, h5, hn, hg, hmd, c]
    refine BrT.dec (fun he => ?_) (fun he => ?_)
    · rw [hd, if_pos he] at hp
      simp [w0, h, h0, h1, h5, hn, hg, hmd, c, he, hp]
    · rw [hd, if_neg he] at hp
      simp [w0, h, h0, h1, h5, hn, hg, hmd, c, he, w]
      exact ⟨⟨i + 1, by omega, szW l[i] r, by omega, by omega, rfl, by omega, hp⟩, upTo_lt h5 (by simp) hi2⟩
  · rw [List.drop_eq_nil_of_le (by omega)] at hp
    simp only [szGoR] at hp
    simp [w0, h, h0, h1, h5, hn, hg, hmd, c, ← hp]
abbrev zWhen : List SV := [.d (dB false), .d (dI 0), .d (dI 0), .d (dS ⟨#[]⟩), .fl [] 0, .fl [] 0]
abbrev sWhen (v : Whn) : List SV := v.cells.map .d
theorem sWhen_len (v : Whn) : (sWhen v).length = 6 := by rw [List.length_map, whn_clen]
theorem sWhen_row (l : List Whn) : l.flatMap sWhen = (whensCells l).map .d := by
  rw [whn_row]
  induction l with
  | nil => rfl
  | cons v r ih => simp [ih]
theorem madeS_zWhen (n : Nat) : madeS zWhen 6 n = (List.replicate n zWhen).flatten := madeS_row zWhen n
set_option maxHeartbeats 1000000 in
theorem p_toWhenS_of (l : List Whn) (hl : l.length ≤ 1048576) (ih : ∀ i (h : i < l.length), PCall Tryz.prog gl 319 [l[i].d] l[i].d) : PCall Tryz.prog gl 278 [whensD l] (whensD l) := by
  refine PCall.by_ (md := []) Tryz.func278 rfl (by kernel_rfl) (n := 23) Tryz.ntmps278 (by simp) (by decide) rfl ?_
  simp
  refine ⟨by omega, ?_⟩
  refine LoopT.round (fun E S => ∃ (i : Nat), (i ≤ l.length) ∧ E 0 = some (.d (whensD l)) ∧ E 3 = some (.os 3 0 l.length) ∧ E 4 = some (.d (dI i)) ∧ S.B 3 = some (filled sWhen zWhen l i)) (upTo 4 l.length) ⟨0, by simp [filled_none, madeS_zWhen]⟩ ?_
  rintro E S hk ⟨i, hi, h0, h3, h4, hB3⟩
  have hn : S.n = 23 := by first | (simpa using hk.n) | (have hh := hk.n; simp at hh; exact hh)
  have hg : S.gl = gl := by first | (simpa using hk.gl) | (have hh := hk.gl; simp at hh; exact hh)
  have hmd : S.md = [] := by first | (simpa using hk.md) | (have hh := hk.md; simp at hh; exact hh)
  simp [h0, h3, h4, hB3, hn, hg, hmd]
  have w := wrap64 (n := (i : Int) + 1) (by omega) (by omega)
  refine BrT.dec (fun h => ?_) (fun h => ?_)
  · have hi2 : i < l.length := by omega
    have hlen := whn_len l
    have hfit : i * 6 + 6 ≤ l.length * 6 := by omega
    have hflen := filled_len (enc := sWhen) (z := zWhen) sWhen_len rfl l hi
    have hnext := filled_next (enc := sWhen) (z := zWhen) sWhen_len rfl l hi2
    simp [h0, h3, h4, hB3, hn, hg, hmd, h, hi2, hlen, hfit, whn_at, whn_clen]
    repeat refine ⟨DrawT.mk (by kernel_rfl), ?_⟩
    refine CallT.p0 (ih i hi2) (by first | rfl | (simp; done) | (simp [h0, h3, h4, hB3, hn, hg, hmd, h]; done)) (by first | rfl | (simp; done) | (simp; rfl) | (simp [h0, h3, h4, hB3, hn, hg, hmd, h]; done)) ?_
    simp [h0, h3, h4, hB3, hn, hg, hmd, h,  hi2, w, hflen, hfit, whn_clen]
    refine ⟨⟨i + 1, by omega, by omega, ?_⟩, upTo_lt h4 (by simp) hi2⟩
    rw [← hnext]
    simp
  · have hi3 : i = l.length := by omega
    subst hi3
    rw [filled_all, sWhen_row] at hB3
    simp [h0, h3, h4, hB3, hn, hg, hmd, h]
set_option maxHeartbeats 1000000 in
theorem p_eqWhenS_of (l : List Whn) (hl : l.length ≤ 4611686018427387904) (ih : ∀ i (h : i < l.length), PCall Tryz.prog gl 326 [l[i].d, l[i].d] (dB true)) : PCall Tryz.prog gl 285 [whensD l, whensD l] (dB true) := by
  refine PCall.by_ (md := []) Tryz.func285 rfl (by kernel_rfl) (n := 27) Tryz.ntmps285 (by simp) (by decide) rfl ?_
  simp
  refine LoopT.round (fun E S => ∃ (i : Nat), (i ≤ l.length) ∧ E 0 = some (.d (whensD l)) ∧ E 1 = some (.d (whensD l)) ∧ E 5 = some (.d (dI i))) (upTo 5 l.length) ⟨0, by simp⟩ ?_
  rintro E S hk ⟨i, hi, h0, h1, h5⟩
  have hn : S.n = 27 := by first | (simpa using hk.n) | (have hh := hk.n; simp at hh; exact hh)
  have hg : S.gl = gl := by first | (simpa using hk.gl) | (have hh := hk.gl; simp at hh; exact hh)
  have hmd : S.md = [] := by first | (simpa using hk.md) | (have hh := hk.md; simp at hh; exact hh)
  simp [h0, h1, h5, hn, hg, hmd]
  have w := wrap64 (n := (i : Int) + 1) (by omega) (by omega)
  refine BrT.dec (fun h => ?_) (fun h => ?_)
  · have hi2 : i < l.length := by omega
    have hlen := whn_len l
    have hfit : i * 6 + 6 ≤ l.length * 6 := by omega
    simp [h0, h1, h5, hn, hg, hmd, h, hi2, hlen, hfit, whn_at, whn_clen]
    repeat refine ⟨DrawT.mk (by kernel_rfl), ?_⟩
    refine CallT.p0 (ih i hi2) (by first | rfl | (simp; done) | (simp [h0, h1, h5, hn, hg, hmd, h]; done)) (by first | rfl | (simp; done) | (simp; rfl) | (simp [h0, h1, h5, hn, hg, hmd, h]; done)) ?_
    simp [h0, h1, h5, hn, hg, hmd, h,  w]
    exact ⟨⟨i + 1, by omega, by omega⟩, upTo_lt h5 (by simp) hi2⟩
  · simp [h0, h1, h5, hn, hg, hmd, h]
set_option maxHeartbeats 1000000 in
theorem p_szWhen (a : Whn) (hv : WhnOk a) (left : Int) (h0 : 0 ≤ left) (hb : left ≤ 4611686018427387904) : PCall Tryz.prog gl 316 [a.d, dI left] (dI (szW a left)) := by
  have kval := fun r (h0 : 0 ≤ r) hb => p_szValue (gl := gl) a.val hv.val r h0 hb
  have lval := szV_le a.val
  have hsz : szW a left = chain [szV a.val] left := rfl
  obtain ⟨neg, val⟩ := a
  simp only at hsz kval lval
  cases val with
  | mk vkval vnval vtval vlval vsval =>
  generalize szW _ left = z at hsz ⊢
  refine PCall.by_ (md := []) Tryz.func316 rfl (by kernel_rfl) (n := 12) Tryz.ntmps316 (by simp) (by decide) rfl ?_
  rw [chain_cons] at hsz
  simp [Whn.cells, Val.cells]
  have c0 := kval left (by omega) (by omega)
  have d0 := lval left (by omega)
  generalize szV _ left = r0 at hsz c0 d0
  repeat refine ⟨DrawT.mk (by kernel_rfl), ?_⟩
  refine CallT.p0 (c0) (by first | rfl | (simp; done) | (simp [Whn.cells, Val.cells]; done)) (by first | rfl | (simp; done) | (simp; rfl) | (simp [Whn.cells, Val.cells]; done)) ?_
  simp [Whn.cells, Val.cells]
  refine BrT.dec (fun h0 => ?_) (fun h0 => ?_)
  case refine_1 => (rw [if_pos h0] at hsz; simp [Whn.cells, Val.cells, h0, hsz])
  rw [if_neg h0] at hsz
  rw [chain_nil] at hsz
  simp [Whn.cells, Val.cells, h0, hsz]
set_option maxHeartbeats 1000000 in
theorem p_toWhen (a : Whn) (hv : WhnSm a) : PCall Tryz.prog gl 319 [a.d] a.d := by
  have kval := p_toValue (gl := gl) a.val hv.val
  obtain ⟨neg, val⟩ := a
  cases val with
  | mk vkval vnval vtval vlval vsval =>
  refine PCall.by_ (md := []) Tryz.func319 rfl (by kernel_rfl) (n := 12) Tryz.ntmps319 (by simp) (by decide) rfl ?_
  simp [Whn.cells, Val.cells]
  repeat refine ⟨DrawT.mk (by kernel_rfl), ?_⟩
  refine CallT.p0 (kval) (by first | rfl | (simp; done) | (simp [Whn.cells, Val.cells]; done)) (by first | rfl | (simp; done) | (simp; rfl) | (simp [Whn.cells, Val.cells]; done)) ?_
  simp [Whn.cells, Val.cells]
set_option maxHeartbeats 1000000 in
theorem p_eqWhen (a : Whn) (hv : WhnOk a) : PCall Tryz.prog gl 326 [a.d, a.d] (dB true) := by
  have kval := p_eqValue (gl := gl) a.val hv.val
  obtain ⟨neg, val⟩ := a
  cases val with
  | mk vkval vnval vtval vlval vsval =>
  refine PCall.by_ (md := []) Tryz.func326 rfl (by kernel_rfl) (n := 16) Tryz.ntmps326 (by simp) (by decide) rfl ?_
  simp [Whn.cells, Val.cells]
  repeat refine ⟨DrawT.mk (by kernel_rfl), ?_⟩
  refine CallT.p0 (kval) (by first | rfl | (simp; done) | (simp [Whn.cells, Val.cells]; done)) (by first | rfl | (simp; done) | (simp; rfl) | (simp [Whn.cells, Val.cells]; done)) ?_
  simp [Whn.cells, Val.cells]
end Go.Proofs.YtbmoiajdknejnaaGreat

/- Var: data, sizes, copies, comparisons (printed by docs.py). -/
set_option linter.unusedVariables false
set_option linter.unusedSimpArgs false
set_option maxRecDepth 100000
namespace Go.Proofs.YtbmoiajdknejnaaGreat
open Go.Sh
variable {gl : Nat → Option D}
set_option maxHeartbeats 1000000 in
theorem p_szVarS_of (l : List Arg) (hl : l.length ≤ 4611686018427387904) (ih : ∀ i (h : i < l.length) (left : Int), 0 ≤ left → left ≤ 4611686018427387904 → PCall Tryz.prog gl 216 [l[i].d, dI left] (dI (szA l[i] left))) (hle : ∀ x ∈ l, SzLe szA x) (left : Int) (h0 : 0 ≤ left) (hb : left ≤ 4611686018427387904) :
    PCall Tryz.prog gl 125 [argsD l, dI left] (dI (szRow szA l left)) := by
  refine PCall.by_ (md := []) Tryz.func125 rfl (by kernel_rfl) (n := 27) Tryz.ntmps125 (by simp) (by decide) rfl ?_
  have w0 : IntKind.i64.wrap (left - l.length) = left - l.length := wrap64 (by omega) (by omega)
  simp [w0]
  refine BrT.dec (fun h => ?_) (fun h => ?_)
  · have : szRow szA l left = -1 := by rw [szRow, if_pos (by omega)]
    simp [w0, h, this]
  have hsz : szRow szA l left = szGoR szA l (left - l.length) := by rw [szRow, if_neg (by omega)]
  simp [w0, h]
  refine LoopT.round (fun E S => ∃ (i : Nat) (r : Int), (i ≤ l.length) ∧ (0 ≤ r) ∧ (r ≤ 4611686018427387904) ∧ E 0 = some (.d (argsD l)) ∧ E 1 = some (.d (dI r)) ∧ E 5 = some (.d (dI i)) ∧ (szGoR szA (l.drop i) r = szRow szA l left)) (upTo 5 l.length) ⟨0, left - l.length, by simp [hsz]; omega⟩ ?_
  rintro E S hk ⟨i, r, hi, hr0, hr1, h0, h1, h5, hp⟩
  have hn : S.n = 27 := by first | (simpa using hk.n) | (have hh := hk.n; simp [w0, h] at hh; exact hh)
  have hg : S.gl = gl := by first | (simpa using hk.gl) | (have hh := hk.gl; simp [w0, h] at hh; exact hh)
  have hmd : S.md = [] := by first | (simpa using hk.md) | (have hh := hk.md; simp [w0, h] at hh; exact hh)
  simp [w0, h, h0, h1, h5, hn, hg, hmd]
  have w := wrap64 (n := (i : Int) + 1) (by omega) (by omega)
  refine BrT.dec (fun c => ?_) (fun c => ?_)
  · have hi2 : i < l.length := by omega
    have hlen := args_len l
    have hfit : i * 10 + 10 ≤ l.length * 10 := by omega
    have hd : szGoR szA (l.drop i) r = if szA l[i] r < 0 then -1 else szGoR szA (l.drop (i + 1)) (szA l[i] r) := by
      rw [List.drop_eq_getElem_cons hi2]; simp only [szGoR]
    have hle2 := hle l[i] (List.getElem_mem hi2) r (by omega)
    simp [w0, h, h0, h1, h5, hn, hg, hmd, c, hi2, hlen, hfit, args_at, acells_len]
    repeat refine ⟨DrawT.mk (by kernel_rfl), ?_⟩
    refine CallT.p0 (ih i hi2 r hr0 hr1) (by first | rfl | (simp; done) | (simp [w0, h, h0, h1, h5, hn, hg, hmd, c]; done)) (by first | rfl | (simp; done) | (simp; rfl) | (simp [w0, h, h0, h1, h5, hn, hg, hmd, c]; done)) ?_
    simp [w0, h, h0, h1, h5, hn, hg, hmd, c]
    refine BrT.dec (fun he => ?_) (fun he => ?_)
    · rw [hd, if_pos he] at hp
      simp [w0, h, h0, h1, h5, hn, hg, hmd, c, he, hp]
    · rw [hd, if_neg he] at hp
      simp [w0, h, h0, h1, h5, hn, hg, hmd, c, he, w]
      exact ⟨⟨i + 1, by omega, szA l[i] r, by omega, by omega, rfl, by omega, hp⟩, upTo_lt h5 (by simp) hi2⟩
  · rw [List.drop_eq_nil_of_le (by omega)] at hp
    simp only [szGoR] at hp
    simp [w0, h, h0, h1, h5, hn, hg, hmd, c, ← hp]
abbrev zVar : List SV := [.d (dS ⟨#[]⟩), .d (dS ⟨#[]⟩), .fl [] 0, .d (dB false), .d (dB false), .d (dI 0), .d (dI 0), .d (dS ⟨#[]⟩), .fl [] 0, .fl [] 0]
abbrev sVar (v : Arg) : List SV := v.cells.map .d
theorem sVar_len (v : Arg) : (sVar v).length = 10 := by rw [List.length_map, acells_len]
theorem sVar_row (l : List Arg) : l.flatMap sVar = (argsCells l).map .d := by
  rw [args_row]
  induction l with
  | nil => rfl
  | cons v r ih => simp [ih]
theorem madeS_zVar (n : Nat) : madeS zVar 10 n = (List.replicate n zVar).flatten := madeS_row zVar n
set_option maxHeartbeats 1000000 in
theorem p_toVarS_of (l : List Arg) (hl : l.length ≤ 1048576) (ih : ∀ i (h : i < l.length), PCall Tryz.prog gl 224 [l[i].d] l[i].d) : PCall Tryz.prog gl 133 [argsD l] (argsD l) := by
  refine PCall.by_ (md := []) Tryz.func133 rfl (by kernel_rfl) (n := 23) Tryz.ntmps133 (by simp) (by decide) rfl ?_
  simp
  refine ⟨by omega, ?_⟩
  refine LoopT.round (fun E S => ∃ (i : Nat), (i ≤ l.length) ∧ E 0 = some (.d (argsD l)) ∧ E 3 = some (.os 3 0 l.length) ∧ E 4 = some (.d (dI i)) ∧ S.B 3 = some (filled sVar zVar l i)) (upTo 4 l.length) ⟨0, by simp [filled_none, madeS_zVar]⟩ ?_
  rintro E S hk ⟨i, hi, h0, h3, h4, hB3⟩
  have hn : S.n = 23 := by first | (simpa using hk.n) | (have hh := hk.n; simp at hh; exact hh)
  have hg : S.gl = gl := by first | (simpa using hk.gl) | (have hh := hk.gl; simp at hh; exact hh)
  have hmd : S.md = [] := by first | (simpa using hk.md) | (have hh := hk.md; simp at hh; exact hh)
  simp [h0, h3, h4, hB3, hn, hg, hmd]
  have w := wrap64 (n := (i : Int) + 1) (by omega) (by omega)
  refine BrT.dec (fun h => ?_) (fun h => ?_)
  · have hi2 : i < l.length := by omega
    have hlen := args_len l
    have hfit : i * 10 + 10 ≤ l.length * 10 := by omega
    have hflen := filled_len (enc := sVar) (z := zVar) sVar_len rfl l hi
    have hnext := filled_next (enc := sVar) (z := zVar) sVar_len rfl l hi2
    simp [h0, h3, h4, hB3, hn, hg, hmd, h, hi2, hlen, hfit, args_at, acells_len]
    repeat refine ⟨DrawT.mk (by kernel_rfl), ?_⟩
    refine CallT.p0 (ih i hi2) (by first | rfl | (simp; done) | (simp [h0, h3, h4, hB3, hn, hg, hmd, h]; done)) (by first | rfl | (simp; done) | (simp; rfl) | (simp [h0, h3, h4, hB3, hn, hg, hmd, h]; done)) ?_
    simp [h0, h3, h4, hB3, hn, hg, hmd, h,  hi2, w, hflen, hfit, acells_len]
    refine ⟨⟨i + 1, by omega, by omega, ?_⟩, upTo_lt h4 (by simp) hi2⟩
    rw [← hnext]
    simp
  · have hi3 : i = l.length := by omega
    subst hi3
    rw [filled_all, sVar_row] at hB3
    simp [h0, h3, h4, hB3, hn, hg, hmd, h]
set_option maxHeartbeats 1000000 in
theorem p_eqVarS_of (l : List Arg) (hl : l.length ≤ 4611686018427387904) (ih : ∀ i (h : i < l.length), PCall Tryz.prog gl 232 [l[i].d, l[i].d] (dB true)) : PCall Tryz.prog gl 144 [argsD l, argsD l] (dB true) := by
  refine PCall.by_ (md := []) Tryz.func144 rfl (by kernel_rfl) (n := 27) Tryz.ntmps144 (by simp) (by decide) rfl ?_
  simp
  refine LoopT.round (fun E S => ∃ (i : Nat), (i ≤ l.length) ∧ E 0 = some (.d (argsD l)) ∧ E 1 = some (.d (argsD l)) ∧ E 5 = some (.d (dI i))) (upTo 5 l.length) ⟨0, by simp⟩ ?_
  rintro E S hk ⟨i, hi, h0, h1, h5⟩
  have hn : S.n = 27 := by first | (simpa using hk.n) | (have hh := hk.n; simp at hh; exact hh)
  have hg : S.gl = gl := by first | (simpa using hk.gl) | (have hh := hk.gl; simp at hh; exact hh)
  have hmd : S.md = [] := by first | (simpa using hk.md) | (have hh := hk.md; simp at hh; exact hh)
  simp [h0, h1, h5, hn, hg, hmd]
  have w := wrap64 (n := (i : Int) + 1) (by omega) (by omega)
  refine BrT.dec (fun h => ?_) (fun h => ?_)
  · have hi2 : i < l.length := by omega
    have hlen := args_len l
    have hfit : i * 10 + 10 ≤ l.length * 10 := by omega
    simp [h0, h1, h5, hn, hg, hmd, h, hi2, hlen, hfit, args_at, acells_len]
    repeat refine ⟨DrawT.mk (by kernel_rfl), ?_⟩
    refine CallT.p0 (ih i hi2) (by first | rfl | (simp; done) | (simp [h0, h1, h5, hn, hg, hmd, h]; done)) (by first | rfl | (simp; done) | (simp; rfl) | (simp [h0, h1, h5, hn, hg, hmd, h]; done)) ?_
    simp [h0, h1, h5, hn, hg, hmd, h,  w]
    exact ⟨⟨i + 1, by omega, by omega⟩, upTo_lt h5 (by simp) hi2⟩
  · simp [h0, h1, h5, hn, hg, hmd, h]
set_option maxHeartbeats 1000000 in
theorem p_szVar (a : Arg) (hv : ArgOk a) (left : Int) (h0 : 0 ≤ left) (hb : left ≤ 4611686018427387904) : PCall Tryz.prog gl 216 [a.d, dI left] (dI (szA a left)) := by
  have kname := hv.1
  have kty := fun r (h0 : 0 ≤ r) hb => p_szType (gl := gl) a.ty hv.2.1 r h0 hb
  have lty := szT_le a.ty
  have kels := fun r (h0 : 0 ≤ r) hb => p_szValue (gl := gl) a.els hv.2.2 r h0 hb
  have lels := szV_le a.els
  have hsz : szA a left = chain [fun r : Int => r - a.name.size, szT a.ty, szV a.els] left := rfl
  obtain ⟨name, ty, has, els⟩ := a
  simp only at hsz kname kty lty kels lels
  cases ty with
  | mk ttty tlty tbty =>
  cases els with
  | mk vkels vnels vtels vlels vsels =>
  generalize szA _ left = z at hsz ⊢
  refine PCall.by_ (md := []) Tryz.func216 rfl (by kernel_rfl) (n := 25) Tryz.ntmps216 (by simp) (by decide) rfl ?_
  rw [chain_cons] at hsz
  have w0 : IntKind.i64.wrap (left - name.size) = left - name.size := wrap64 (by omega) (by omega)
  simp [Arg.cells, Typ.cells, Val.cells, w0]
  refine BrT.dec (fun h0 => ?_) (fun h0 => ?_)
  case refine_1 => (rw [if_pos (by omega)] at hsz; simp [Arg.cells, Typ.cells, Val.cells, w0, h0, hsz])
  rw [if_neg (by omega)] at hsz
  obtain ⟨r0, hr0⟩ : ∃ r, left - name.size = r := ⟨_, rfl⟩
  rw [hr0] at hsz
  rw [chain_cons] at hsz
  simp [Arg.cells, Typ.cells, Val.cells, w0, h0, hr0]
  have c1 := kty r0 (by omega) (by omega)
  have d1 := lty r0 (by omega)
  generalize szT _ r0 = r1 at hsz c1 d1
  repeat refine ⟨DrawT.mk (by kernel_rfl), ?_⟩
  refine CallT.p0 (c1) (by first | rfl | (simp; done) | (simp [Arg.cells, Typ.cells, Val.cells, w0, h0, hr0]; done)) (by first | rfl | (simp; done) | (simp; rfl) | (simp [Arg.cells, Typ.cells, Val.cells, w0, h0, hr0]; done)) ?_
  simp [Arg.cells, Typ.cells, Val.cells, w0, h0, hr0]
  refine BrT.dec (fun h1 => ?_) (fun h1 => ?_)
  case refine_1 => (rw [if_pos h1] at hsz; simp [Arg.cells, Typ.cells, Val.cells, w0, h0, hr0, h1, hsz])
  rw [if_neg h1] at hsz
  rw [chain_cons] at hsz
  simp [Arg.cells, Typ.cells, Val.cells, w0, h0, hr0, h1]
  have c2 := kels r1 (by omega) (by omega)
  have d2 := lels r1 (by omega)
  generalize szV _ r1 = r2 at hsz c2 d2
  repeat refine ⟨DrawT.mk (by kernel_rfl), ?_⟩
  refine CallT.p0 (c2) (by first | rfl | (simp; done) | (simp [Arg.cells, Typ.cells, Val.cells, w0, h0, hr0, h1]; done)) (by first | rfl | (simp; done) | (simp; rfl) | (simp [Arg.cells, Typ.cells, Val.cells, w0, h0, hr0, h1]; done)) ?_
  simp [Arg.cells, Typ.cells, Val.cells, w0, h0, hr0, h1]
  refine BrT.dec (fun h2 => ?_) (fun h2 => ?_)
  case refine_1 => (rw [if_pos h2] at hsz; simp [Arg.cells, Typ.cells, Val.cells, w0, h0, hr0, h1, h2, hsz])
  rw [if_neg h2] at hsz
  rw [chain_nil] at hsz
  simp [Arg.cells, Typ.cells, Val.cells, w0, h0, hr0, h1, h2, hsz]
set_option maxHeartbeats 1000000 in
theorem p_toVar (a : Arg) (hv : ArgSm a) : PCall Tryz.prog gl 224 [a.d] a.d := by
  have kty := p_toType (gl := gl) a.ty hv.2.1
  have kels := p_toValue (gl := gl) a.els hv.2.2
  obtain ⟨name, ty, has, els⟩ := a
  cases ty with
  | mk ttty tlty tbty =>
  cases els with
  | mk vkels vnels vtels vlels vsels =>
  refine PCall.by_ (md := []) Tryz.func224 rfl (by kernel_rfl) (n := 19) Tryz.ntmps224 (by simp) (by decide) rfl ?_
  simp [Arg.cells, Typ.cells, Val.cells]
  repeat refine ⟨DrawT.mk (by kernel_rfl), ?_⟩
  refine CallT.p0 (kty) (by first | rfl | (simp; done) | (simp [Arg.cells, Typ.cells, Val.cells]; done)) (by first | rfl | (simp; done) | (simp; rfl) | (simp [Arg.cells, Typ.cells, Val.cells]; done)) ?_
  simp [Arg.cells, Typ.cells, Val.cells]
  repeat refine ⟨DrawT.mk (by kernel_rfl), ?_⟩
  refine CallT.p0 (kels) (by first | rfl | (simp; done) | (simp [Arg.cells, Typ.cells, Val.cells]; done)) (by first | rfl | (simp; done) | (simp; rfl) | (simp [Arg.cells, Typ.cells, Val.cells]; done)) ?_
  simp [Arg.cells, Typ.cells, Val.cells]
set_option maxHeartbeats 1000000 in
theorem p_eqVar (a : Arg) (hv : ArgOk a) : PCall Tryz.prog gl 232 [a.d, a.d] (dB true) := by
  have kty := p_eqType (gl := gl) a.ty hv.2.1
  have kels := p_eqValue (gl := gl) a.els hv.2.2
  obtain ⟨name, ty, has, els⟩ := a
  cases ty with
  | mk ttty tlty tbty =>
  cases els with
  | mk vkels vnels vtels vlels vsels =>
  refine PCall.by_ (md := []) Tryz.func232 rfl (by kernel_rfl) (n := 27) Tryz.ntmps232 (by simp) (by decide) rfl ?_
  simp [Arg.cells, Typ.cells, Val.cells]
  repeat refine ⟨DrawT.mk (by kernel_rfl), ?_⟩
  refine CallT.p0 (kty) (by first | rfl | (simp; done) | (simp [Arg.cells, Typ.cells, Val.cells]; done)) (by first | rfl | (simp; done) | (simp; rfl) | (simp [Arg.cells, Typ.cells, Val.cells]; done)) ?_
  simp [Arg.cells, Typ.cells, Val.cells]
  repeat refine ⟨DrawT.mk (by kernel_rfl), ?_⟩
  refine CallT.p0 (kels) (by first | rfl | (simp; done) | (simp [Arg.cells, Typ.cells, Val.cells]; done)) (by first | rfl | (simp; done) | (simp; rfl) | (simp [Arg.cells, Typ.cells, Val.cells]; done)) ?_
  simp [Arg.cells, Typ.cells, Val.cells]
end Go.Proofs.YtbmoiajdknejnaaGreat

/- Sel: data, sizes, copies, comparisons (printed by docs.py). -/
set_option linter.unusedVariables false
set_option linter.unusedSimpArgs false
set_option maxRecDepth 100000
namespace Go.Proofs.YtbmoiajdknejnaaGreat
open Go.Sh
variable {gl : Nat → Option D}
inductive Sel where
  | mk (kind : Int) (alias : ByteArray) (name : ByteArray) (args : List Giv) (whens : List Whn) (sels : List Sel)
  deriving Inhabited
mutual
def Sel.cells : Sel → List D
  | .mk kind alias name args whens sels => [dI kind] ++ [dS alias] ++ [dS name] ++ [givesD args] ++ [whensD whens] ++ [.ps (selsCells sels) sels.length]
def selsCells : List Sel → List D
  | [] => []
  | v :: r => v.cells ++ selsCells r
end
abbrev Sel.d (a : Sel) : D := .agg a.cells
abbrev selsD (l : List Sel) : D := .ps (selsCells l) l.length
theorem sel_clen (a : Sel) : a.cells.length = 6 := by cases a; simp [Sel.cells, tcells_len, cells_len]
theorem sel_row : ∀ l : List Sel, selsCells l = l.flatMap Sel.cells
  | [] => by simp [selsCells]
  | v :: r => by rw [selsCells, sel_row r, List.flatMap_cons]
def Sel.kindF : Sel → Int | .mk kind alias name args whens sels => kind
def Sel.aliasF : Sel → ByteArray | .mk kind alias name args whens sels => alias
def Sel.nameF : Sel → ByteArray | .mk kind alias name args whens sels => name
def Sel.argsF : Sel → List Giv | .mk kind alias name args whens sels => args
def Sel.whensF : Sel → List Whn | .mk kind alias name args whens sels => whens
def Sel.selsF : Sel → List Sel | .mk kind alias name args whens sels => sels
@[simp] theorem take_selc (v : Sel) : v.cells.take 6 = v.cells := List.take_of_length_le (by rw [sel_clen]; exact Nat.le_refl _)
@[simp] theorem take_selcS (v : Sel) : (v.cells.map SV.d).take 6 = v.cells.map SV.d := List.take_of_length_le (by rw [List.length_map, sel_clen]; exact Nat.le_refl _)
theorem sel_len (l : List Sel) : (selsCells l).length = l.length * 6 := by rw [sel_row, row_len sel_clen]
theorem sel_at (l : List Sel) {i : Nat} (hi : i < l.length) : ((selsCells l).drop (i * 6)).take 6 = (l[i]).cells := by rw [sel_row, row_at sel_clen l i hi]
end Go.Proofs.YtbmoiajdknejnaaGreat

/- What is chosen: sizes, copies, comparisons. -/
set_option linter.unusedVariables false
set_option linter.unusedSimpArgs false
set_option maxRecDepth 100000
namespace Go.Proofs.YtbmoiajdknejnaaGreat
open Go.Sh
variable {gl : Nat → Option D}
inductive SelOk : Sel → Prop
  | mk {kind : Int} {alias name : ByteArray} {args : List Giv} {whens : List Whn} {sels : List Sel} (ha : alias.size ≤ 4611686018427387904) (hn : name.size ≤ 4611686018427387904) (hg : args.length ≤ 4611686018427387904 ∧ ∀ x ∈ args, GivOk x) (hw : whens.length ≤ 4611686018427387904 ∧ ∀ x ∈ whens, WhnOk x) (hl : sels.length ≤ 4611686018427387904) (h : ∀ s ∈ sels, SelOk s) : SelOk (.mk kind alias name args whens sels)
inductive SelSm : Sel → Prop
  | mk {kind : Int} {alias name : ByteArray} {args : List Giv} {whens : List Whn} {sels : List Sel} (ha : alias.size ≤ 1048576) (hn : name.size ≤ 1048576) (hg : args.length ≤ 1048576 ∧ ∀ x ∈ args, GivSm x) (hw : whens.length ≤ 1048576 ∧ ∀ x ∈ whens, WhnSm x) (hl : sels.length ≤ 1048576) (h : ∀ s ∈ sels, SelSm s) : SelSm (.mk kind alias name args whens sels)
theorem sel_ok {s : Sel} (h : SelSm s) : SelOk s := by
  match s, h with
  | .mk k al nm args whens sels, .mk ha hn hg hw hl h =>
    exact .mk (by omega) (by omega) ⟨by have := hg.1; omega, fun x hx => giv_ok (hg.2 x hx)⟩ ⟨by have := hw.1; omega, fun x hx => whn_ok (hw.2 x hx)⟩ (by omega) fun x hx => sel_ok (h x hx)
  termination_by SizeOf.sizeOf s
  decreasing_by
    have := List.sizeOf_lt_of_mem hx
    simp; omega
abbrev selSteps (al nm : ByteArray) (args : List Giv) (whens : List Whn) : List (Int → Int) := [fun r : Int => r - al.size, fun r : Int => r - nm.size, szRow szG args, szRow szW whens]
mutual
def szS : Sel → Int → Int
  | .mk _ al nm args whens sels, left => if chain (selSteps al nm args whens) left < 0 then -1 else if szSs sels (chain (selSteps al nm args whens) left) < 0 then -1 else szSs sels (chain (selSteps al nm args whens) left)
def szSs : List Sel → Int → Int
  | l, left => if left - l.length < 0 then -1 else szSgo l (left - l.length)
def szSgo : List Sel → Int → Int
  | [], r => r
  | v :: l, r => if szS v r < 0 then -1 else szSgo l (szS v r)
end
theorem szSgo_eq : ∀ (l : List Sel) (r : Int), szSgo l r = szGoR szS l r
  | [], r => by simp only [szSgo, szGoR]
  | v :: l, r => by simp only [szSgo, szGoR, szSgo_eq l]
theorem szSs_eq (l : List Sel) (r : Int) : szSs l r = szRow szS l r := by
  rw [szSs, szRow, szSgo_eq]
theorem szS_eq (k : Int) (al nm : ByteArray) (args : List Giv) (whens : List Whn) (sels : List Sel) (left : Int) : szS (.mk k al nm args whens sels) left = chain [fun r : Int => r - al.size, fun r : Int => r - nm.size, szRow szG args, szRow szW whens, szRow szS sels] left := by
  simp only [szS, szSs_eq, selSteps, chain_cons, chain_nil]
  by_cases a : left - al.size < 0
  · simp [a]
  by_cases b : left - al.size - nm.size < 0
  · simp [a, b]
  by_cases c : szRow szG args (left - al.size - nm.size) < 0
  · simp [a, b, c]
  by_cases d : szRow szW whens (szRow szG args (left - al.size - nm.size)) < 0
  · simp [a, b, c, d]
  simp [a, b, c, d]
theorem szS_le : ∀ v : Sel, SzLe szS v
  | .mk k al nm args whens sels => fun r h => by
    have hl : ∀ x ∈ sels, SzLe szS x := fun x hx =>
      have := List.sizeOf_lt_of_mem hx
      szS_le x
    rw [szS_eq]
    refine chain_le (fun g hg => ?_) r h
    simp only [List.mem_cons, List.not_mem_nil, or_false] at hg
    rcases hg with rfl | rfl | rfl | rfl | rfl
    · exact sub_le al
    · exact sub_le nm
    · exact row_le (l := args) fun x _ => szG_le x
    · exact row_le (l := whens) fun x _ => szW_le x
    · exact row_le (l := sels) hl
termination_by v => SizeOf.sizeOf v
decreasing_by
  simp_wf
  omega
theorem szS_small : ∀ (v : Sel) (r : Int), r ≤ 1048576 → 0 ≤ szS v r → -1 ≤ r → SelSm v
  | .mk k al nm args whens sels, r, hr, h, h0 => by
    rw [szS_eq] at h
    have key := chain_small (fs := [fun r : Int => r - al.size, fun r : Int => r - nm.size, szRow szG args, szRow szW whens, szRow szS sels]) (fun g hg => by
      simp only [List.mem_cons, List.not_mem_nil, or_false] at hg
      rcases hg with rfl | rfl | rfl | rfl | rfl
      · exact sub_le al
      · exact sub_le nm
      · exact row_le (l := args) fun x _ => szG_le x
      · exact row_le (l := whens) fun x _ => szW_le x
      · exact row_le (l := sels) fun x _ => szS_le x) r h0 h
    obtain ⟨q0, a0, b0, c0⟩ := key (fun r : Int => r - al.size) (by simp)
    obtain ⟨q1, a1, b1, c1⟩ := key (fun r : Int => r - nm.size) (by simp)
    obtain ⟨q2, a2, b2, c2⟩ := key (szRow szG args) (by simp)
    obtain ⟨q3, a3, b3, c3⟩ := key (szRow szW whens) (by simp)
    obtain ⟨q4, a4, b4, c4⟩ := key (szRow szS sels) (by simp)
    obtain ⟨e2, g2⟩ := szRow_small (l := args) (fun x _ => szG_le x) a2 c2
    obtain ⟨e3, g3⟩ := szRow_small (l := whens) (fun x _ => szW_le x) a3 c3
    obtain ⟨e4, g4⟩ := szRow_small (l := sels) (fun x _ => szS_le x) a4 c4
    try simp only at c0 c1
    refine .mk (by omega) (by omega) ⟨by omega, fun x hx => ?_⟩ ⟨by omega, fun x hx => ?_⟩ (by omega) fun x hx => ?_
    · obtain ⟨p, p1, p2, p3⟩ := g2 x hx
      exact szG_small x p (by omega) p3 p1
    · obtain ⟨p, p1, p2, p3⟩ := g3 x hx
      exact szW_small x p (by omega) p3 p1
    · obtain ⟨p, p1, p2, p3⟩ := g4 x hx
      have := List.sizeOf_lt_of_mem hx
      exact szS_small x p (by omega) p3 p1
termination_by v => SizeOf.sizeOf v
decreasing_by
  simp_wf
  omega
set_option maxHeartbeats 1000000 in
theorem p_szSelS_of (l : List Sel) (hl : l.length ≤ 4611686018427387904) (ih : ∀ i (h : i < l.length) (left : Int), 0 ≤ left → left ≤ 4611686018427387904 → PCall Tryz.prog gl 217 [l[i].d, dI left] (dI (szS l[i] left))) (hle : ∀ x ∈ l, SzLe szS x) (left : Int) (h0 : 0 ≤ left) (hb : left ≤ 4611686018427387904) :
    PCall Tryz.prog gl 126 [selsD l, dI left] (dI (szRow szS l left)) := by
  refine PCall.by_ (md := []) Tryz.func126 rfl (by kernel_rfl) (n := 27) Tryz.ntmps126 (by simp) (by decide) rfl ?_
  have w0 : IntKind.i64.wrap (left - l.length) = left - l.length := wrap64 (by omega) (by omega)
  simp [w0]
  refine BrT.dec (fun h => ?_) (fun h => ?_)
  · have : szRow szS l left = -1 := by rw [szRow, if_pos (by omega)]
    simp [w0, h, this]
  have hsz : szRow szS l left = szGoR szS l (left - l.length) := by rw [szRow, if_neg (by omega)]
  simp [w0, h]
  refine LoopT.round (fun E S => ∃ (i : Nat) (r : Int), (i ≤ l.length) ∧ (0 ≤ r) ∧ (r ≤ 4611686018427387904) ∧ E 0 = some (.d (selsD l)) ∧ E 1 = some (.d (dI r)) ∧ E 5 = some (.d (dI i)) ∧ (szGoR szS (l.drop i) r = szRow szS l left)) (upTo 5 l.length) ⟨0, left - l.length, by simp [hsz]; omega⟩ ?_
  rintro E S hk ⟨i, r, hi, hr0, hr1, h0, h1, h5, hp⟩
  have hn : S.n = 27 := by first | (simpa using hk.n) | (have hh := hk.n; simp [w0, h] at hh; exact hh)
  have hg : S.gl = gl := by first | (simpa using hk.gl) | (have hh := hk.gl; simp [w0, h] at hh; exact hh)
  have hmd : S.md = [] := by first | (simpa using hk.md) | (have hh := hk.md; simp [w0, h] at hh; exact hh)
  simp [w0, h, h0, h1, h5, hn, hg, hmd]
  have w := wrap64 (n := (i : Int) + 1) (by omega) (by omega)
  refine BrT.dec (fun c => ?_) (fun c => ?_)
  · have hi2 : i < l.length := by omega
    have hlen := sel_len l
    have hfit : i * 6 + 6 ≤ l.length * 6 := by omega
    have hd : szGoR szS (l.drop i) r = if szS l[i] r < 0 then -1 else szGoR szS (l.drop (i + 1)) (szS l[i] r) := by
      rw [List.drop_eq_getElem_cons hi2]; simp only [szGoR]
    have hle2 := hle l[i] (List.getElem_mem hi2) r (by omega)
    simp [w0, h, h0, h1, h5, hn, hg, hmd, c, hi2, hlen, hfit, sel_at, sel_clen]
    repeat refine ⟨DrawT.mk (by kernel_rfl), ?_⟩
    refine CallT.p0 (ih i hi2 r hr0 hr1) (by first | rfl | (simp; done) | (simp [w0, h, h0, h1, h5, hn, hg, hmd, c]; done)) (by first | rfl | (simp; done) | (simp; rfl) | (simp [w0, h, h0, h1, h5, hn, hg, hmd, c]; done)) ?_
    simp [w0, h, h0, h1, h5, hn, hg, hmd, c]
    refine BrT.dec (fun he => ?_) (fun he => ?_)
    · rw [hd, if_pos he] at hp
      simp [w0, h, h0, h1, h5, hn, hg, hmd, c, he, hp]
    · rw [hd, if_neg he] at hp
      simp [w0, h, h0, h1, h5, hn, hg, hmd, c, he, w]
      exact ⟨⟨i + 1, by omega, szS l[i] r, by omega, by omega, rfl, by omega, hp⟩, upTo_lt h5 (by simp) hi2⟩
  · rw [List.drop_eq_nil_of_le (by omega)] at hp
    simp only [szGoR] at hp
    simp [w0, h, h0, h1, h5, hn, hg, hmd, c, ← hp]
abbrev zSel : List SV := [.d (dI 0), .d (dS ⟨#[]⟩), .d (dS ⟨#[]⟩), .fl [] 0, .fl [] 0, .fl [] 0]
abbrev sSel (v : Sel) : List SV := v.cells.map .d
theorem sSel_len (v : Sel) : (sSel v).length = 6 := by rw [List.length_map, sel_clen]
theorem sSel_row (l : List Sel) : l.flatMap sSel = (selsCells l).map .d := by
  rw [sel_row]
  induction l with
  | nil => rfl
  | cons v r ih => simp [ih]
theorem madeS_zSel (n : Nat) : madeS zSel 6 n = (List.replicate n zSel).flatten := madeS_row zSel n
set_option maxHeartbeats 1000000 in
theorem p_toSelS_of (l : List Sel) (hl : l.length ≤ 1048576) (ih : ∀ i (h : i < l.length), PCall Tryz.prog gl 225 [l[i].d] l[i].d) : PCall Tryz.prog gl 134 [selsD l] (selsD l) := by
  refine PCall.by_ (md := []) Tryz.func134 rfl (by kernel_rfl) (n := 23) Tryz.ntmps134 (by simp) (by decide) rfl ?_
  simp
  refine ⟨by omega, ?_⟩
  refine LoopT.round (fun E S => ∃ (i : Nat), (i ≤ l.length) ∧ E 0 = some (.d (selsD l)) ∧ E 3 = some (.os 3 0 l.length) ∧ E 4 = some (.d (dI i)) ∧ S.B 3 = some (filled sSel zSel l i)) (upTo 4 l.length) ⟨0, by simp [filled_none, madeS_zSel]⟩ ?_
  rintro E S hk ⟨i, hi, h0, h3, h4, hB3⟩
  have hn : S.n = 23 := by first | (simpa using hk.n) | (have hh := hk.n; simp at hh; exact hh)
  have hg : S.gl = gl := by first | (simpa using hk.gl) | (have hh := hk.gl; simp at hh; exact hh)
  have hmd : S.md = [] := by first | (simpa using hk.md) | (have hh := hk.md; simp at hh; exact hh)
  simp [h0, h3, h4, hB3, hn, hg, hmd]
  have w := wrap64 (n := (i : Int) + 1) (by omega) (by omega)
  refine BrT.dec (fun h => ?_) (fun h => ?_)
  · have hi2 : i < l.length := by omega
    have hlen := sel_len l
    have hfit : i * 6 + 6 ≤ l.length * 6 := by omega
    have hflen := filled_len (enc := sSel) (z := zSel) sSel_len rfl l hi
    have hnext := filled_next (enc := sSel) (z := zSel) sSel_len rfl l hi2
    simp [h0, h3, h4, hB3, hn, hg, hmd, h, hi2, hlen, hfit, sel_at, sel_clen]
    repeat refine ⟨DrawT.mk (by kernel_rfl), ?_⟩
    refine CallT.p0 (ih i hi2) (by first | rfl | (simp; done) | (simp [h0, h3, h4, hB3, hn, hg, hmd, h]; done)) (by first | rfl | (simp; done) | (simp; rfl) | (simp [h0, h3, h4, hB3, hn, hg, hmd, h]; done)) ?_
    simp [h0, h3, h4, hB3, hn, hg, hmd, h,  hi2, w, hflen, hfit, sel_clen]
    refine ⟨⟨i + 1, by omega, by omega, ?_⟩, upTo_lt h4 (by simp) hi2⟩
    rw [← hnext]
    simp
  · have hi3 : i = l.length := by omega
    subst hi3
    rw [filled_all, sSel_row] at hB3
    simp [h0, h3, h4, hB3, hn, hg, hmd, h]
set_option maxHeartbeats 1000000 in
theorem p_eqSelS_of (l : List Sel) (hl : l.length ≤ 4611686018427387904) (ih : ∀ i (h : i < l.length), PCall Tryz.prog gl 233 [l[i].d, l[i].d] (dB true)) : PCall Tryz.prog gl 145 [selsD l, selsD l] (dB true) := by
  refine PCall.by_ (md := []) Tryz.func145 rfl (by kernel_rfl) (n := 27) Tryz.ntmps145 (by simp) (by decide) rfl ?_
  simp
  refine LoopT.round (fun E S => ∃ (i : Nat), (i ≤ l.length) ∧ E 0 = some (.d (selsD l)) ∧ E 1 = some (.d (selsD l)) ∧ E 5 = some (.d (dI i))) (upTo 5 l.length) ⟨0, by simp⟩ ?_
  rintro E S hk ⟨i, hi, h0, h1, h5⟩
  have hn : S.n = 27 := by first | (simpa using hk.n) | (have hh := hk.n; simp at hh; exact hh)
  have hg : S.gl = gl := by first | (simpa using hk.gl) | (have hh := hk.gl; simp at hh; exact hh)
  have hmd : S.md = [] := by first | (simpa using hk.md) | (have hh := hk.md; simp at hh; exact hh)
  simp [h0, h1, h5, hn, hg, hmd]
  have w := wrap64 (n := (i : Int) + 1) (by omega) (by omega)
  refine BrT.dec (fun h => ?_) (fun h => ?_)
  · have hi2 : i < l.length := by omega
    have hlen := sel_len l
    have hfit : i * 6 + 6 ≤ l.length * 6 := by omega
    simp [h0, h1, h5, hn, hg, hmd, h, hi2, hlen, hfit, sel_at, sel_clen]
    repeat refine ⟨DrawT.mk (by kernel_rfl), ?_⟩
    refine CallT.p0 (ih i hi2) (by first | rfl | (simp; done) | (simp [h0, h1, h5, hn, hg, hmd, h]; done)) (by first | rfl | (simp; done) | (simp; rfl) | (simp [h0, h1, h5, hn, hg, hmd, h]; done)) ?_
    simp [h0, h1, h5, hn, hg, hmd, h,  w]
    exact ⟨⟨i + 1, by omega, by omega⟩, upTo_lt h5 (by simp) hi2⟩
  · simp [h0, h1, h5, hn, hg, hmd, h]
set_option maxHeartbeats 1000000 in
theorem p_szSel (a : Sel) (hv : SelOk a) (left : Int) (h0 : 0 ≤ left) (hb : left ≤ 4611686018427387904) : PCall Tryz.prog gl 217 [a.d, dI left] (dI (szS a left)) := by
  match a, hv with
  | .mk kind alias name args whens sels, .mk kalias kname hg hw hl h =>
  have kargs := fun r (h0 : 0 ≤ r) hb => p_szGiveS_of (gl := gl) args hg.1 (fun i hi r x y => p_szGive args[i] (hg.2 _ (List.getElem_mem hi)) r x y) (fun x _ => szG_le x) r h0 hb
  have largs := szRow_le (l := args) (fun x _ => szG_le x)
  have kwhens := fun r (h0 : 0 ≤ r) hb => p_szWhenS_of (gl := gl) whens hw.1 (fun i hi r x y => p_szWhen whens[i] (hw.2 _ (List.getElem_mem hi)) r x y) (fun x _ => szW_le x) r h0 hb
  have lwhens := szRow_le (l := whens) (fun x _ => szW_le x)
  have ksels := fun r (h0 : 0 ≤ r) hb => p_szSelS_of (gl := gl) sels hl (fun i hi r x y =>
    have := List.sizeOf_lt_of_mem (List.getElem_mem hi)
    p_szSel sels[i] (h _ (List.getElem_mem hi)) r x y) (fun x _ => szS_le x) r h0 hb
  have lsels := szRow_le (l := sels) (fun x _ => szS_le x)
  have hsz := szS_eq kind alias name args whens sels left
  generalize szS _ left = z at hsz ⊢
  refine PCall.by_ (md := []) Tryz.func217 rfl (by kernel_rfl) (n := 38) Tryz.ntmps217 (by simp) (by decide) rfl ?_
  rw [chain_cons] at hsz
  have w0 : IntKind.i64.wrap (left - alias.size) = left - alias.size := wrap64 (by omega) (by omega)
  simp [Sel.cells, w0]
  refine BrT.dec (fun h0 => ?_) (fun h0 => ?_)
  case refine_1 => (rw [if_pos (by omega)] at hsz; simp [Sel.cells, w0, h0, hsz])
  rw [if_neg (by omega)] at hsz
  obtain ⟨r0, hr0⟩ : ∃ r, left - alias.size = r := ⟨_, rfl⟩
  rw [hr0] at hsz
  rw [chain_cons] at hsz
  have w1 : IntKind.i64.wrap (r0 - name.size) = r0 - name.size := wrap64 (by omega) (by omega)
  simp [Sel.cells, w0, h0, hr0, w1]
  refine BrT.dec (fun h1 => ?_) (fun h1 => ?_)
  case refine_1 => (rw [if_pos (by omega)] at hsz; simp [Sel.cells, w0, h0, hr0, w1, h1, hsz])
  rw [if_neg (by omega)] at hsz
  obtain ⟨r1, hr1⟩ : ∃ r, r0 - name.size = r := ⟨_, rfl⟩
  rw [hr1] at hsz
  rw [chain_cons] at hsz
  simp [Sel.cells, w0, h0, hr0, w1, h1, hr1]
  have c2 := kargs r1 (by omega) (by omega)
  have d2 := largs r1 (by omega)
  generalize szRow szG args r1 = r2 at hsz c2 d2
  repeat refine ⟨DrawT.mk (by kernel_rfl), ?_⟩
  refine CallT.p0 (c2) (by first | rfl | (simp; done) | (simp [Sel.cells, w0, h0, hr0, w1, h1, hr1]; done)) (by first | rfl | (simp; done) | (simp; rfl) | (simp [Sel.cells, w0, h0, hr0, w1, h1, hr1]; done)) ?_
  simp [Sel.cells, w0, h0, hr0, w1, h1, hr1]
  refine BrT.dec (fun h2 => ?_) (fun h2 => ?_)
  case refine_1 => (rw [if_pos h2] at hsz; simp [Sel.cells, w0, h0, hr0, w1, h1, hr1, h2, hsz])
  rw [if_neg h2] at hsz
  rw [chain_cons] at hsz
  simp [Sel.cells, w0, h0, hr0, w1, h1, hr1, h2]
  have c3 := kwhens r2 (by omega) (by omega)
  have d3 := lwhens r2 (by omega)
  generalize szRow szW whens r2 = r3 at hsz c3 d3
  repeat refine ⟨DrawT.mk (by kernel_rfl), ?_⟩
  refine CallT.p0 (c3) (by first | rfl | (simp; done) | (simp [Sel.cells, w0, h0, hr0, w1, h1, hr1, h2]; done)) (by first | rfl | (simp; done) | (simp; rfl) | (simp [Sel.cells, w0, h0, hr0, w1, h1, hr1, h2]; done)) ?_
  simp [Sel.cells, w0, h0, hr0, w1, h1, hr1, h2]
  refine BrT.dec (fun h3 => ?_) (fun h3 => ?_)
  case refine_1 => (rw [if_pos h3] at hsz; simp [Sel.cells, w0, h0, hr0, w1, h1, hr1, h2, h3, hsz])
  rw [if_neg h3] at hsz
  rw [chain_cons] at hsz
  simp [Sel.cells, w0, h0, hr0, w1, h1, hr1, h2, h3]
  have c4 := ksels r3 (by omega) (by omega)
  have d4 := lsels r3 (by omega)
  generalize szRow szS sels r3 = r4 at hsz c4 d4
  repeat refine ⟨DrawT.mk (by kernel_rfl), ?_⟩
  refine CallT.p0 (c4) (by first | rfl | (simp; done) | (simp [Sel.cells, w0, h0, hr0, w1, h1, hr1, h2, h3]; done)) (by first | rfl | (simp; done) | (simp; rfl) | (simp [Sel.cells, w0, h0, hr0, w1, h1, hr1, h2, h3]; done)) ?_
  simp [Sel.cells, w0, h0, hr0, w1, h1, hr1, h2, h3]
  refine BrT.dec (fun h4 => ?_) (fun h4 => ?_)
  case refine_1 => (rw [if_pos h4] at hsz; simp [Sel.cells, w0, h0, hr0, w1, h1, hr1, h2, h3, h4, hsz])
  rw [if_neg h4] at hsz
  rw [chain_nil] at hsz
  simp [Sel.cells, w0, h0, hr0, w1, h1, hr1, h2, h3, h4, hsz]
  termination_by SizeOf.sizeOf a
  decreasing_by
  simp_wf
  omega
set_option maxHeartbeats 1000000 in
theorem p_toSel (a : Sel) (hv : SelSm a) : PCall Tryz.prog gl 225 [a.d] a.d := by
  match a, hv with
  | .mk kind alias name args whens sels, .mk kalias kname hg hw hl h =>
  have kargs := p_toGiveS_of (gl := gl) args hg.1 (fun i hi => p_toGive args[i] (hg.2 _ (List.getElem_mem hi)))
  have kwhens := p_toWhenS_of (gl := gl) whens hw.1 (fun i hi => p_toWhen whens[i] (hw.2 _ (List.getElem_mem hi)))
  have ksels := p_toSelS_of (gl := gl) sels hl (fun i hi =>
    have := List.sizeOf_lt_of_mem (List.getElem_mem hi)
    p_toSel sels[i] (h _ (List.getElem_mem hi)))
  refine PCall.by_ (md := []) Tryz.func225 rfl (by kernel_rfl) (n := 26) Tryz.ntmps225 (by simp) (by decide) rfl ?_
  simp [Sel.cells]
  repeat refine ⟨DrawT.mk (by kernel_rfl), ?_⟩
  refine CallT.p0 (kargs) (by first | rfl | (simp; done) | (simp [Sel.cells]; done)) (by first | rfl | (simp; done) | (simp; rfl) | (simp [Sel.cells]; done)) ?_
  simp [Sel.cells]
  repeat refine ⟨DrawT.mk (by kernel_rfl), ?_⟩
  refine CallT.p0 (kwhens) (by first | rfl | (simp; done) | (simp [Sel.cells]; done)) (by first | rfl | (simp; done) | (simp; rfl) | (simp [Sel.cells]; done)) ?_
  simp [Sel.cells]
  repeat refine ⟨DrawT.mk (by kernel_rfl), ?_⟩
  refine CallT.p0 (ksels) (by first | rfl | (simp; done) | (simp [Sel.cells]; done)) (by first | rfl | (simp; done) | (simp; rfl) | (simp [Sel.cells]; done)) ?_
  simp [Sel.cells]
  termination_by SizeOf.sizeOf a
  decreasing_by
  simp_wf
  omega
set_option maxHeartbeats 1000000 in
theorem p_eqSel (a : Sel) (hv : SelOk a) : PCall Tryz.prog gl 233 [a.d, a.d] (dB true) := by
  match a, hv with
  | .mk kind alias name args whens sels, .mk kalias kname hg hw hl h =>
  have kargs := p_eqGiveS_of (gl := gl) args hg.1 (fun i hi => p_eqGive args[i] (hg.2 _ (List.getElem_mem hi)))
  have kwhens := p_eqWhenS_of (gl := gl) whens hw.1 (fun i hi => p_eqWhen whens[i] (hw.2 _ (List.getElem_mem hi)))
  have ksels := p_eqSelS_of (gl := gl) sels hl (fun i hi =>
    have := List.sizeOf_lt_of_mem (List.getElem_mem hi)
    p_eqSel sels[i] (h _ (List.getElem_mem hi)))
  refine PCall.by_ (md := []) Tryz.func233 rfl (by kernel_rfl) (n := 38) Tryz.ntmps233 (by simp) (by decide) rfl ?_
  simp [Sel.cells]
  repeat refine ⟨DrawT.mk (by kernel_rfl), ?_⟩
  refine CallT.p0 (kargs) (by first | rfl | (simp; done) | (simp [Sel.cells]; done)) (by first | rfl | (simp; done) | (simp; rfl) | (simp [Sel.cells]; done)) ?_
  simp [Sel.cells]
  repeat refine ⟨DrawT.mk (by kernel_rfl), ?_⟩
  refine CallT.p0 (kwhens) (by first | rfl | (simp; done) | (simp [Sel.cells]; done)) (by first | rfl | (simp; done) | (simp; rfl) | (simp [Sel.cells]; done)) ?_
  simp [Sel.cells]
  repeat refine ⟨DrawT.mk (by kernel_rfl), ?_⟩
  refine CallT.p0 (ksels) (by first | rfl | (simp; done) | (simp [Sel.cells]; done)) (by first | rfl | (simp; done) | (simp; rfl) | (simp [Sel.cells]; done)) ?_
  simp [Sel.cells]
  termination_by SizeOf.sizeOf a
  decreasing_by
  simp_wf
  omega
end Go.Proofs.YtbmoiajdknejnaaGreat

/- Op: data, sizes, copies, comparisons (printed by docs.py). -/
set_option linter.unusedVariables false
set_option linter.unusedSimpArgs false
set_option maxRecDepth 100000
namespace Go.Proofs.YtbmoiajdknejnaaGreat
open Go.Sh
variable {gl : Nat → Option D}
structure Opn where
  change : Bool
  name : ByteArray
  vars : List Arg
  sels : List Sel
def Opn.cells (a : Opn) : List D := [dB a.change] ++ [dS a.name] ++ [argsD a.vars] ++ [selsD a.sels]
abbrev Opn.d (a : Opn) : D := .agg a.cells
def opsCells (l : List Opn) : List D := l.flatMap Opn.cells
abbrev opsD (l : List Opn) : D := .ps (opsCells l) l.length
theorem opn_clen (a : Opn) : a.cells.length = 4 := by simp [Opn.cells, tcells_len, cells_len]
theorem opn_row (l : List Opn) : opsCells l = l.flatMap Opn.cells := rfl
@[simp] theorem take_opnc (v : Opn) : v.cells.take 4 = v.cells := List.take_of_length_le (by rw [opn_clen]; exact Nat.le_refl _)
@[simp] theorem take_opncS (v : Opn) : (v.cells.map SV.d).take 4 = v.cells.map SV.d := List.take_of_length_le (by rw [List.length_map, opn_clen]; exact Nat.le_refl _)
theorem opn_len (l : List Opn) : (opsCells l).length = l.length * 4 := by rw [opn_row, row_len opn_clen]
theorem opn_at (l : List Opn) {i : Nat} (hi : i < l.length) : ((opsCells l).drop (i * 4)).take 4 = (l[i]).cells := by rw [opn_row, row_at opn_clen l i hi]
structure OpnOk (a : Opn) : Prop where
  name : a.name.size ≤ 4611686018427387904
  vars : (a.vars.length ≤ 4611686018427387904 ∧ ∀ x ∈ a.vars, ArgOk x)
  sels : (a.sels.length ≤ 4611686018427387904 ∧ ∀ x ∈ a.sels, SelOk x)
structure OpnSm (a : Opn) : Prop where
  name : a.name.size ≤ 1048576
  vars : (a.vars.length ≤ 1048576 ∧ ∀ x ∈ a.vars, ArgSm x)
  sels : (a.sels.length ≤ 1048576 ∧ ∀ x ∈ a.sels, SelSm x)
def szO (a : Opn) (left : Int) : Int := chain [fun r : Int => r - a.name.size, szRow szA a.vars, szRow szS a.sels] left
theorem szO_steps (a : Opn) : ∀ g ∈ [fun r : Int => r - a.name.size, szRow szA a.vars, szRow szS a.sels], ∀ r : Int, -1 ≤ r → g r ≤ r := by
  intro g hg
  simp only [List.mem_cons, List.not_mem_nil, or_false] at hg
  rcases hg with rfl | rfl | rfl
  · exact sub_le a.name
  · exact row_le (l := a.vars) fun x _ => szA_le x
  · exact row_le (l := a.sels) fun x _ => szS_le x
theorem szO_le (a : Opn) : SzLe szO a := fun r h => chain_le (szO_steps a) r h
theorem szO_small (a : Opn) (r : Int) (hr : r ≤ 1048576) (h : 0 ≤ szO a r) (h0 : -1 ≤ r) : OpnSm a := by
  have key := chain_small (szO_steps a) r h0 h
  obtain ⟨q0, a0, b0, c0⟩ := key (fun r : Int => r - a.name.size) (by simp)
  obtain ⟨q1, a1, b1, c1⟩ := key (szRow szA a.vars) (by simp)
  obtain ⟨q2, a2, b2, c2⟩ := key (szRow szS a.sels) (by simp)
  obtain ⟨e1, g1⟩ := szRow_small (l := a.vars) (fun x _ => szA_le x) a1 c1
  obtain ⟨e2, g2⟩ := szRow_small (l := a.sels) (fun x _ => szS_le x) a2 c2
  exact ⟨by first | omega | (simp only at c0; omega), ⟨by omega, fun x hx => by
    obtain ⟨p, p1, p2, p3⟩ := g1 x hx
    exact szA_small x p (by omega) p3⟩, ⟨by omega, fun x hx => by
    obtain ⟨p, p1, p2, p3⟩ := g2 x hx
    exact szS_small x p (by omega) p3 p1⟩⟩
theorem opn_ok {a : Opn} (h : OpnSm a) : OpnOk a := ⟨by have := h.name; omega, ⟨by have := h.vars.1; omega, fun x hx => arg_ok (h.vars.2 x hx)⟩, ⟨by have := h.sels.1; omega, fun x hx => sel_ok (h.sels.2 x hx)⟩⟩
set_option maxHeartbeats 1000000 in
theorem p_szOpS_of (l : List Opn) (hl : l.length ≤ 4611686018427387904) (ih : ∀ i (h : i < l.length) (left : Int), 0 ≤ left → left ≤ 4611686018427387904 → PCall Tryz.prog gl 49 [l[i].d, dI left] (dI (szO l[i] left))) (hle : ∀ x ∈ l, SzLe szO x) (left : Int) (h0 : 0 ≤ left) (hb : left ≤ 4611686018427387904) :
    PCall Tryz.prog gl 106 [opsD l, dI left] (dI (szRow szO l left)) := by
  refine PCall.by_ (md := []) Tryz.func106 rfl (by kernel_rfl) (n := 27) Tryz.ntmps106 (by simp) (by decide) rfl ?_
  have w0 : IntKind.i64.wrap (left - l.length) = left - l.length := wrap64 (by omega) (by omega)
  simp [w0]
  refine BrT.dec (fun h => ?_) (fun h => ?_)
  · have : szRow szO l left = -1 := by rw [szRow, if_pos (by omega)]
    simp [w0, h, this]
  have hsz : szRow szO l left = szGoR szO l (left - l.length) := by rw [szRow, if_neg (by omega)]
  simp [w0, h]
  refine LoopT.round (fun E S => ∃ (i : Nat) (r : Int), (i ≤ l.length) ∧ (0 ≤ r) ∧ (r ≤ 4611686018427387904) ∧ E 0 = some (.d (opsD l)) ∧ E 1 = some (.d (dI r)) ∧ E 5 = some (.d (dI i)) ∧ (szGoR szO (l.drop i) r = szRow szO l left)) (upTo 5 l.length) ⟨0, left - l.length, by simp [hsz]; omega⟩ ?_
  rintro E S hk ⟨i, r, hi, hr0, hr1, h0, h1, h5, hp⟩
  have hn : S.n = 27 := by first | (simpa using hk.n) | (have hh := hk.n; simp [w0, h] at hh; exact hh)
  have hg : S.gl = gl := by first | (simpa using hk.gl) | (have hh := hk.gl; simp [w0, h] at hh; exact hh)
  have hmd : S.md = [] := by first | (simpa using hk.md) | (have hh := hk.md; simp [w0, h] at hh; exact hh)
  simp [w0, h, h0, h1, h5, hn, hg, hmd]
  have w := wrap64 (n := (i : Int) + 1) (by omega) (by omega)
  refine BrT.dec (fun c => ?_) (fun c => ?_)
  · have hi2 : i < l.length := by omega
    have hlen := opn_len l
    have hfit : i * 4 + 4 ≤ l.length * 4 := by omega
    have hd : szGoR szO (l.drop i) r = if szO l[i] r < 0 then -1 else szGoR szO (l.drop (i + 1)) (szO l[i] r) := by
      rw [List.drop_eq_getElem_cons hi2]; simp only [szGoR]
    have hle2 := hle l[i] (List.getElem_mem hi2) r (by omega)
    simp [w0, h, h0, h1, h5, hn, hg, hmd, c, hi2, hlen, hfit, opn_at, opn_clen]
    repeat refine ⟨DrawT.mk (by kernel_rfl), ?_⟩
    refine CallT.p0 (ih i hi2 r hr0 hr1) (by first | rfl | (simp; done) | (simp [w0, h, h0, h1, h5, hn, hg, hmd, c]; done)) (by first | rfl | (simp; done) | (simp; rfl) | (simp [w0, h, h0, h1, h5, hn, hg, hmd, c]; done)) ?_
    simp [w0, h, h0, h1, h5, hn, hg, hmd, c]
    refine BrT.dec (fun he => ?_) (fun he => ?_)
    · rw [hd, if_pos he] at hp
      simp [w0, h, h0, h1, h5, hn, hg, hmd, c, he, hp]
    · rw [hd, if_neg he] at hp
      simp [w0, h, h0, h1, h5, hn, hg, hmd, c, he, w]
      exact ⟨⟨i + 1, by omega, szO l[i] r, by omega, by omega, rfl, by omega, hp⟩, upTo_lt h5 (by simp) hi2⟩
  · rw [List.drop_eq_nil_of_le (by omega)] at hp
    simp only [szGoR] at hp
    simp [w0, h, h0, h1, h5, hn, hg, hmd, c, ← hp]
abbrev zOp : List SV := [.d (dB false), .d (dS ⟨#[]⟩), .fl [] 0, .fl [] 0]
abbrev sOp (v : Opn) : List SV := v.cells.map .d
theorem sOp_len (v : Opn) : (sOp v).length = 4 := by rw [List.length_map, opn_clen]
theorem sOp_row (l : List Opn) : l.flatMap sOp = (opsCells l).map .d := by
  rw [opn_row]
  induction l with
  | nil => rfl
  | cons v r ih => simp [ih]
theorem madeS_zOp (n : Nat) : madeS zOp 4 n = (List.replicate n zOp).flatten := madeS_row zOp n
set_option maxHeartbeats 1000000 in
theorem p_toOpS_of (l : List Opn) (hl : l.length ≤ 1048576) (ih : ∀ i (h : i < l.length), PCall Tryz.prog gl 52 [l[i].d] l[i].d) : PCall Tryz.prog gl 111 [opsD l] (opsD l) := by
  refine PCall.by_ (md := []) Tryz.func111 rfl (by kernel_rfl) (n := 23) Tryz.ntmps111 (by simp) (by decide) rfl ?_
  simp
  refine ⟨by omega, ?_⟩
  refine LoopT.round (fun E S => ∃ (i : Nat), (i ≤ l.length) ∧ E 0 = some (.d (opsD l)) ∧ E 3 = some (.os 3 0 l.length) ∧ E 4 = some (.d (dI i)) ∧ S.B 3 = some (filled sOp zOp l i)) (upTo 4 l.length) ⟨0, by simp [filled_none, madeS_zOp]⟩ ?_
  rintro E S hk ⟨i, hi, h0, h3, h4, hB3⟩
  have hn : S.n = 23 := by first | (simpa using hk.n) | (have hh := hk.n; simp at hh; exact hh)
  have hg : S.gl = gl := by first | (simpa using hk.gl) | (have hh := hk.gl; simp at hh; exact hh)
  have hmd : S.md = [] := by first | (simpa using hk.md) | (have hh := hk.md; simp at hh; exact hh)
  simp [h0, h3, h4, hB3, hn, hg, hmd]
  have w := wrap64 (n := (i : Int) + 1) (by omega) (by omega)
  refine BrT.dec (fun h => ?_) (fun h => ?_)
  · have hi2 : i < l.length := by omega
    have hlen := opn_len l
    have hfit : i * 4 + 4 ≤ l.length * 4 := by omega
    have hflen := filled_len (enc := sOp) (z := zOp) sOp_len rfl l hi
    have hnext := filled_next (enc := sOp) (z := zOp) sOp_len rfl l hi2
    simp [h0, h3, h4, hB3, hn, hg, hmd, h, hi2, hlen, hfit, opn_at, opn_clen]
    repeat refine ⟨DrawT.mk (by kernel_rfl), ?_⟩
    refine CallT.p0 (ih i hi2) (by first | rfl | (simp; done) | (simp [h0, h3, h4, hB3, hn, hg, hmd, h]; done)) (by first | rfl | (simp; done) | (simp; rfl) | (simp [h0, h3, h4, hB3, hn, hg, hmd, h]; done)) ?_
    simp [h0, h3, h4, hB3, hn, hg, hmd, h,  hi2, w, hflen, hfit, opn_clen]
    refine ⟨⟨i + 1, by omega, by omega, ?_⟩, upTo_lt h4 (by simp) hi2⟩
    rw [← hnext]
    simp
  · have hi3 : i = l.length := by omega
    subst hi3
    rw [filled_all, sOp_row] at hB3
    simp [h0, h3, h4, hB3, hn, hg, hmd, h]
set_option maxHeartbeats 1000000 in
theorem p_eqOpS_of (l : List Opn) (hl : l.length ≤ 4611686018427387904) (ih : ∀ i (h : i < l.length), PCall Tryz.prog gl 56 [l[i].d, l[i].d] (dB true)) : PCall Tryz.prog gl 117 [opsD l, opsD l] (dB true) := by
  refine PCall.by_ (md := []) Tryz.func117 rfl (by kernel_rfl) (n := 27) Tryz.ntmps117 (by simp) (by decide) rfl ?_
  simp
  refine LoopT.round (fun E S => ∃ (i : Nat), (i ≤ l.length) ∧ E 0 = some (.d (opsD l)) ∧ E 1 = some (.d (opsD l)) ∧ E 5 = some (.d (dI i))) (upTo 5 l.length) ⟨0, by simp⟩ ?_
  rintro E S hk ⟨i, hi, h0, h1, h5⟩
  have hn : S.n = 27 := by first | (simpa using hk.n) | (have hh := hk.n; simp at hh; exact hh)
  have hg : S.gl = gl := by first | (simpa using hk.gl) | (have hh := hk.gl; simp at hh; exact hh)
  have hmd : S.md = [] := by first | (simpa using hk.md) | (have hh := hk.md; simp at hh; exact hh)
  simp [h0, h1, h5, hn, hg, hmd]
  have w := wrap64 (n := (i : Int) + 1) (by omega) (by omega)
  refine BrT.dec (fun h => ?_) (fun h => ?_)
  · have hi2 : i < l.length := by omega
    have hlen := opn_len l
    have hfit : i * 4 + 4 ≤ l.length * 4 := by omega
    simp [h0, h1, h5, hn, hg, hmd, h, hi2, hlen, hfit, opn_at, opn_clen]
    repeat refine ⟨DrawT.mk (by kernel_rfl), ?_⟩
    refine CallT.p0 (ih i hi2) (by first | rfl | (simp; done) | (simp [h0, h1, h5, hn, hg, hmd, h]; done)) (by first | rfl | (simp; done) | (simp; rfl) | (simp [h0, h1, h5, hn, hg, hmd, h]; done)) ?_
    simp [h0, h1, h5, hn, hg, hmd, h,  w]
    exact ⟨⟨i + 1, by omega, by omega⟩, upTo_lt h5 (by simp) hi2⟩
  · simp [h0, h1, h5, hn, hg, hmd, h]
set_option maxHeartbeats 1000000 in
theorem p_szOp (a : Opn) (hv : OpnOk a) (left : Int) (h0 : 0 ≤ left) (hb : left ≤ 4611686018427387904) : PCall Tryz.prog gl 49 [a.d, dI left] (dI (szO a left)) := by
  have kname := hv.name
  have kvars := fun r (h0 : 0 ≤ r) hb => p_szVarS_of (gl := gl) a.vars hv.vars.1 (fun i hi r x y => p_szVar a.vars[i] (hv.vars.2 _ (List.getElem_mem hi)) r x y) (fun x _ => szA_le x) r h0 hb
  have lvars := szRow_le (l := a.vars) (fun x _ => szA_le x)
  have ksels := fun r (h0 : 0 ≤ r) hb => p_szSelS_of (gl := gl) a.sels hv.sels.1 (fun i hi r x y => p_szSel a.sels[i] (hv.sels.2 _ (List.getElem_mem hi)) r x y) (fun x _ => szS_le x) r h0 hb
  have lsels := szRow_le (l := a.sels) (fun x _ => szS_le x)
  have hsz : szO a left = chain [fun r : Int => r - a.name.size, szRow szA a.vars, szRow szS a.sels] left := rfl
  obtain ⟨change, name, vars, sels⟩ := a
  simp only at hsz kname kvars lvars ksels lsels
  generalize szO _ left = z at hsz ⊢
  refine PCall.by_ (md := []) Tryz.func49 rfl (by kernel_rfl) (n := 25) Tryz.ntmps49 (by simp) (by decide) rfl ?_
  rw [chain_cons] at hsz
  have w0 : IntKind.i64.wrap (left - name.size) = left - name.size := wrap64 (by omega) (by omega)
  simp [Opn.cells, w0]
  refine BrT.dec (fun h0 => ?_) (fun h0 => ?_)
  case refine_1 => (rw [if_pos (by omega)] at hsz; simp [Opn.cells, w0, h0, hsz])
  rw [if_neg (by omega)] at hsz
  obtain ⟨r0, hr0⟩ : ∃ r, left - name.size = r := ⟨_, rfl⟩
  rw [hr0] at hsz
  rw [chain_cons] at hsz
  simp [Opn.cells, w0, h0, hr0]
  have c1 := kvars r0 (by omega) (by omega)
  have d1 := lvars r0 (by omega)
  generalize szRow szA vars r0 = r1 at hsz c1 d1
  repeat refine ⟨DrawT.mk (by kernel_rfl), ?_⟩
  refine CallT.p0 (c1) (by first | rfl | (simp; done) | (simp [Opn.cells, w0, h0, hr0]; done)) (by first | rfl | (simp; done) | (simp; rfl) | (simp [Opn.cells, w0, h0, hr0]; done)) ?_
  simp [Opn.cells, w0, h0, hr0]
  refine BrT.dec (fun h1 => ?_) (fun h1 => ?_)
  case refine_1 => (rw [if_pos h1] at hsz; simp [Opn.cells, w0, h0, hr0, h1, hsz])
  rw [if_neg h1] at hsz
  rw [chain_cons] at hsz
  simp [Opn.cells, w0, h0, hr0, h1]
  have c2 := ksels r1 (by omega) (by omega)
  have d2 := lsels r1 (by omega)
  generalize szRow szS sels r1 = r2 at hsz c2 d2
  repeat refine ⟨DrawT.mk (by kernel_rfl), ?_⟩
  refine CallT.p0 (c2) (by first | rfl | (simp; done) | (simp [Opn.cells, w0, h0, hr0, h1]; done)) (by first | rfl | (simp; done) | (simp; rfl) | (simp [Opn.cells, w0, h0, hr0, h1]; done)) ?_
  simp [Opn.cells, w0, h0, hr0, h1]
  refine BrT.dec (fun h2 => ?_) (fun h2 => ?_)
  case refine_1 => (rw [if_pos h2] at hsz; simp [Opn.cells, w0, h0, hr0, h1, h2, hsz])
  rw [if_neg h2] at hsz
  rw [chain_nil] at hsz
  simp [Opn.cells, w0, h0, hr0, h1, h2, hsz]
set_option maxHeartbeats 1000000 in
theorem p_toOp (a : Opn) (hv : OpnSm a) : PCall Tryz.prog gl 52 [a.d] a.d := by
  have kvars := p_toVarS_of (gl := gl) a.vars hv.vars.1 (fun i hi => p_toVar a.vars[i] (hv.vars.2 _ (List.getElem_mem hi)))
  have ksels := p_toSelS_of (gl := gl) a.sels hv.sels.1 (fun i hi => p_toSel a.sels[i] (hv.sels.2 _ (List.getElem_mem hi)))
  obtain ⟨change, name, vars, sels⟩ := a
  refine PCall.by_ (md := []) Tryz.func52 rfl (by kernel_rfl) (n := 19) Tryz.ntmps52 (by simp) (by decide) rfl ?_
  simp [Opn.cells]
  repeat refine ⟨DrawT.mk (by kernel_rfl), ?_⟩
  refine CallT.p0 (kvars) (by first | rfl | (simp; done) | (simp [Opn.cells]; done)) (by first | rfl | (simp; done) | (simp; rfl) | (simp [Opn.cells]; done)) ?_
  simp [Opn.cells]
  repeat refine ⟨DrawT.mk (by kernel_rfl), ?_⟩
  refine CallT.p0 (ksels) (by first | rfl | (simp; done) | (simp [Opn.cells]; done)) (by first | rfl | (simp; done) | (simp; rfl) | (simp [Opn.cells]; done)) ?_
  simp [Opn.cells]
set_option maxHeartbeats 1000000 in
theorem p_eqOp (a : Opn) (hv : OpnOk a) : PCall Tryz.prog gl 56 [a.d, a.d] (dB true) := by
  have kvars := p_eqVarS_of (gl := gl) a.vars hv.vars.1 (fun i hi => p_eqVar a.vars[i] (hv.vars.2 _ (List.getElem_mem hi)))
  have ksels := p_eqSelS_of (gl := gl) a.sels hv.sels.1 (fun i hi => p_eqSel a.sels[i] (hv.sels.2 _ (List.getElem_mem hi)))
  obtain ⟨change, name, vars, sels⟩ := a
  refine PCall.by_ (md := []) Tryz.func56 rfl (by kernel_rfl) (n := 27) Tryz.ntmps56 (by simp) (by decide) rfl ?_
  simp [Opn.cells]
  repeat refine ⟨DrawT.mk (by kernel_rfl), ?_⟩
  refine CallT.p0 (kvars) (by first | rfl | (simp; done) | (simp [Opn.cells]; done)) (by first | rfl | (simp; done) | (simp; rfl) | (simp [Opn.cells]; done)) ?_
  simp [Opn.cells]
  repeat refine ⟨DrawT.mk (by kernel_rfl), ?_⟩
  refine CallT.p0 (ksels) (by first | rfl | (simp; done) | (simp [Opn.cells]; done)) (by first | rfl | (simp; done) | (simp; rfl) | (simp [Opn.cells]; done)) ?_
  simp [Opn.cells]
end Go.Proofs.YtbmoiajdknejnaaGreat
