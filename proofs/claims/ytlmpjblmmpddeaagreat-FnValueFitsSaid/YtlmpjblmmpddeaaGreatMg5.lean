/- ShFacts and what follows it, one behind another. -/
import Derived.Test.YtlmpjblmmpddeaaGreatMg4
import Derived.Test.YtlmpjblmmpddeaaGreatProg
set_option linter.unusedVariables false
set_option linter.unusedSimpArgs false
set_option maxRecDepth 100000
namespace Go.Proofs.YtlmpjblmmpddeaaGreat
open Go.Sh
@[simp] theorem szOf_3:szOf Tryz.prog 3=some (1):=by kernel_rfl
@[simp] theorem known_3:known Tryz.prog 3=true:=by kernel_rfl
@[simp] theorem intKindOf_3:intKindOf Tryz.prog 3=some .i64:=by kernel_rfl
@[simp] theorem loadG_3 {α:Type} (mk:List α→α) (cs:List α) (off:Nat):loadG mk Tryz.prog 3 cs off=cs[off]?:=by kernel_rfl
@[simp] theorem szOf_4:szOf Tryz.prog 4=some (1):=by kernel_rfl
@[simp] theorem boolEq_4 (a b:Bool):binS Tryz.prog .eql 4 (.bool a) (.bool b)=some (.bool (a == b)):=by kernel_rfl
@[simp] theorem boolNe_4 (a b:Bool):binS Tryz.prog .neq 4 (.bool a) (.bool b)=some (.bool (!(a == b))):=by kernel_rfl
@[simp] theorem loadG_4 {α:Type} (mk:List α→α) (cs:List α) (off:Nat):loadG mk Tryz.prog 4 cs off=cs[off]?:=by kernel_rfl
@[simp] theorem known_5:known Tryz.prog 5=true:=by kernel_rfl
@[simp] theorem intKindOf_5:intKindOf Tryz.prog 5=some .u8:=by kernel_rfl
@[simp] theorem loadG_5 {α:Type} (mk:List α→α) (cs:List α) (off:Nat):loadG mk Tryz.prog 5 cs off=cs[off]?:=by kernel_rfl
@[simp] theorem szOf_9:szOf Tryz.prog 9=some (1):=by kernel_rfl
@[simp] theorem isString_9:isString Tryz.prog 9=true:=by kernel_rfl
@[simp] theorem loadG_9 {α:Type} (mk:List α→α) (cs:List α) (off:Nat):loadG mk Tryz.prog 9 cs off=cs[off]?:=by kernel_rfl
@[simp] theorem isSlice_22:isSlice Tryz.prog 22=true:=by kernel_rfl
@[simp] theorem bytesOf_22:bytesOf Tryz.prog 22=some (5):=by kernel_rfl
@[simp] theorem elemOf_22:Sh.elemOf Tryz.prog 22=some (5,1):=by kernel_rfl
@[simp] theorem makeOf_22:makeOf Tryz.prog 22=some ([.d (.v (.int .u8 0))],1,1):=by kernel_rfl
@[simp] theorem zerosOf_22:zerosOf Tryz.prog 22=some ([.v (.int .u8 0)],1):=by kernel_rfl
@[simp] theorem loadG_22 {α:Type} (mk:List α→α) (cs:List α) (off:Nat):loadG mk Tryz.prog 22 cs off=cs[off]?:=by kernel_rfl
@[simp] theorem isSlice_23:isSlice Tryz.prog 23=true:=by kernel_rfl
@[simp] theorem elemOf_23:Sh.elemOf Tryz.prog 23=some (29,4):=by kernel_rfl
@[simp] theorem appOf_23:appOf Tryz.prog 23=some (29,4,72):=by kernel_rfl
@[simp] theorem makeOf_23:makeOf Tryz.prog 23=some ([.d (.v (.string ⟨#[]⟩)), .d (.v (.int .i64 0)), .fl [] 0, .fl [] 0],4,72):=by kernel_rfl
@[simp] theorem zerosOf_23:zerosOf Tryz.prog 23=some ([.v (.string ⟨#[]⟩), .v (.int .i64 0), .ps [] 0, .ps [] 0],4):=by kernel_rfl
@[simp] theorem szOf_26:szOf Tryz.prog 26=some (1):=by kernel_rfl
@[simp] theorem isSlice_26:isSlice Tryz.prog 26=true:=by kernel_rfl
@[simp] theorem elemOf_26:Sh.elemOf Tryz.prog 26=some (52,5):=by kernel_rfl
@[simp] theorem appOf_26:appOf Tryz.prog 26=some (52,5,88):=by kernel_rfl
@[simp] theorem makeOf_26:makeOf Tryz.prog 26=some ([.d (.v (.string ⟨#[]⟩)), .fl [] 0, .d (.v (.string ⟨#[]⟩)), .fl [] 0, .d (.v (.bool false))],5,88):=by kernel_rfl
@[simp] theorem zerosOf_26:zerosOf Tryz.prog 26=some ([.v (.string ⟨#[]⟩), .ps [] 0, .v (.string ⟨#[]⟩), .ps [] 0, .v (.bool false)],5):=by kernel_rfl
@[simp] theorem loadG_26 {α:Type} (mk:List α→α) (cs:List α) (off:Nat):loadG mk Tryz.prog 26 cs off=cs[off]?:=by kernel_rfl
@[simp] theorem szOf_27:szOf Tryz.prog 27=some (1):=by kernel_rfl
@[simp] theorem isSlice_27:isSlice Tryz.prog 27=true:=by kernel_rfl
@[simp] theorem elemOf_27:Sh.elemOf Tryz.prog 27=some (9,1):=by kernel_rfl
@[simp] theorem appOf_27:appOf Tryz.prog 27=some (9,1,16):=by kernel_rfl
@[simp] theorem makeOf_27:makeOf Tryz.prog 27=some ([.d (.v (.string ⟨#[]⟩))],1,16):=by kernel_rfl
@[simp] theorem zerosOf_27:zerosOf Tryz.prog 27=some ([.v (.string ⟨#[]⟩)],1):=by kernel_rfl
@[simp] theorem loadG_27 {α:Type} (mk:List α→α) (cs:List α) (off:Nat):loadG mk Tryz.prog 27 cs off=cs[off]?:=by kernel_rfl
@[simp] theorem szOf_29:szOf Tryz.prog 29=some (4):=by kernel_rfl
@[simp] theorem zeroCellsOf_29:zeroCellsOf Tryz.prog 29=some [.d (.v (.string ⟨#[]⟩)), .d (.v (.int .i64 0)), .fl [] 0, .fl [] 0]:=by kernel_rfl
@[simp] theorem fieldOf0_29:fieldOf Tryz.prog 29 0=some 0:=by kernel_rfl
@[simp] theorem placeOf0_29:placeOf Tryz.prog 29 0=some (0,1):=by kernel_rfl
@[simp] theorem fieldOf1_29:fieldOf Tryz.prog 29 1=some 1:=by kernel_rfl
@[simp] theorem fieldTy1_29:fieldTy Tryz.prog 29 1=some (3,1):=by kernel_rfl
@[simp] theorem placeOf1_29:placeOf Tryz.prog 29 1=some (1,1):=by kernel_rfl
@[simp] theorem fieldOf2_29:fieldOf Tryz.prog 29 2=some 2:=by kernel_rfl
@[simp] theorem fieldTy2_29:fieldTy Tryz.prog 29 2=some (26,2):=by kernel_rfl
@[simp] theorem placeOf2_29:placeOf Tryz.prog 29 2=some (2,1):=by kernel_rfl
@[simp] theorem fieldOf3_29:fieldOf Tryz.prog 29 3=some 3:=by kernel_rfl
@[simp] theorem placeOf3_29:placeOf Tryz.prog 29 3=some (3,1):=by kernel_rfl
@[simp] theorem sized_29:sized Tryz.prog 29=true:=by kernel_rfl
@[simp] theorem loadG_29 {α:Type} (mk:List α→α) (cs:List α) (off:Nat):loadG mk Tryz.prog 29 cs off=if off+4≤cs.length then some (mk ((cs.drop off).take 4)) else none:=by kernel_rfl
@[simp] theorem szOf_30:szOf Tryz.prog 30=some (1):=by kernel_rfl
@[simp] theorem isSlice_30:isSlice Tryz.prog 30=true:=by kernel_rfl
@[simp] theorem elemOf_30:Sh.elemOf Tryz.prog 30=some (32,3):=by kernel_rfl
@[simp] theorem makeOf_30:makeOf Tryz.prog 30=some ([.d (.v (.string ⟨#[]⟩)), .fl [] 0, .d (.v (.bool false))],3,48):=by kernel_rfl
@[simp] theorem zerosOf_30:zerosOf Tryz.prog 30=some ([.v (.string ⟨#[]⟩), .ps [] 0, .v (.bool false)],3):=by kernel_rfl
@[simp] theorem loadG_30 {α:Type} (mk:List α→α) (cs:List α) (off:Nat):loadG mk Tryz.prog 30 cs off=cs[off]?:=by kernel_rfl
@[simp] theorem szOf_32:szOf Tryz.prog 32=some (3):=by kernel_rfl
@[simp] theorem zeroCellsOf_32:zeroCellsOf Tryz.prog 32=some [.d (.v (.string ⟨#[]⟩)), .fl [] 0, .d (.v (.bool false))]:=by kernel_rfl
@[simp] theorem fieldOf0_32:fieldOf Tryz.prog 32 0=some 0:=by kernel_rfl
@[simp] theorem placeOf0_32:placeOf Tryz.prog 32 0=some (0,1):=by kernel_rfl
@[simp] theorem fieldOf1_32:fieldOf Tryz.prog 32 1=some 1:=by kernel_rfl
@[simp] theorem placeOf1_32:placeOf Tryz.prog 32 1=some (1,1):=by kernel_rfl
@[simp] theorem fieldOf2_32:fieldOf Tryz.prog 32 2=some 2:=by kernel_rfl
@[simp] theorem placeOf2_32:placeOf Tryz.prog 32 2=some (2,1):=by kernel_rfl
@[simp] theorem sized_32:sized Tryz.prog 32=true:=by kernel_rfl
@[simp] theorem loadG_32 {α:Type} (mk:List α→α) (cs:List α) (off:Nat):loadG mk Tryz.prog 32 cs off=if off+3≤cs.length then some (mk ((cs.drop off).take 3)) else none:=by kernel_rfl
@[simp] theorem szOf_34:szOf Tryz.prog 34=some (1):=by kernel_rfl
@[simp] theorem isSlice_34:isSlice Tryz.prog 34=true:=by kernel_rfl
@[simp] theorem elemOf_34:Sh.elemOf Tryz.prog 34=some (36,5):=by kernel_rfl
@[simp] theorem appOf_34:appOf Tryz.prog 34=some (36,5,80):=by kernel_rfl
@[simp] theorem makeOf_34:makeOf Tryz.prog 34=some ([.d (.v (.int .i64 0)), .d (.v (.int .i64 0)), .d (.v (.string ⟨#[]⟩)), .fl [] 0, .fl [] 0],5,80):=by kernel_rfl
@[simp] theorem zerosOf_34:zerosOf Tryz.prog 34=some ([.v (.int .i64 0), .v (.int .i64 0), .v (.string ⟨#[]⟩), .ps [] 0, .ps [] 0],5):=by kernel_rfl
@[simp] theorem loadG_34 {α:Type} (mk:List α→α) (cs:List α) (off:Nat):loadG mk Tryz.prog 34 cs off=cs[off]?:=by kernel_rfl
@[simp] theorem szOf_36:szOf Tryz.prog 36=some (5):=by kernel_rfl
@[simp] theorem zeroCellsOf_36:zeroCellsOf Tryz.prog 36=some [.d (.v (.int .i64 0)), .d (.v (.int .i64 0)), .d (.v (.string ⟨#[]⟩)), .fl [] 0, .fl [] 0]:=by kernel_rfl
@[simp] theorem fieldOf0_36:fieldOf Tryz.prog 36 0=some 0:=by kernel_rfl
@[simp] theorem placeOf0_36:placeOf Tryz.prog 36 0=some (0,1):=by kernel_rfl
@[simp] theorem fieldOf1_36:fieldOf Tryz.prog 36 1=some 1:=by kernel_rfl
@[simp] theorem placeOf1_36:placeOf Tryz.prog 36 1=some (1,1):=by kernel_rfl
@[simp] theorem fieldOf2_36:fieldOf Tryz.prog 36 2=some 2:=by kernel_rfl
@[simp] theorem placeOf2_36:placeOf Tryz.prog 36 2=some (2,1):=by kernel_rfl
@[simp] theorem fieldOf3_36:fieldOf Tryz.prog 36 3=some 3:=by kernel_rfl
@[simp] theorem placeOf3_36:placeOf Tryz.prog 36 3=some (3,1):=by kernel_rfl
@[simp] theorem fieldOf4_36:fieldOf Tryz.prog 36 4=some 4:=by kernel_rfl
@[simp] theorem placeOf4_36:placeOf Tryz.prog 36 4=some (4,1):=by kernel_rfl
@[simp] theorem sized_36:sized Tryz.prog 36=true:=by kernel_rfl
@[simp] theorem loadG_36 {α:Type} (mk:List α→α) (cs:List α) (off:Nat):loadG mk Tryz.prog 36 cs off=if off+5≤cs.length then some (mk ((cs.drop off).take 5)) else none:=by kernel_rfl
@[simp] theorem szOf_50:szOf Tryz.prog 50=some (1):=by kernel_rfl
@[simp] theorem isSlice_50:isSlice Tryz.prog 50=true:=by kernel_rfl
@[simp] theorem elemOf_50:Sh.elemOf Tryz.prog 50=some (118,10):=by kernel_rfl
@[simp] theorem appOf_50:appOf Tryz.prog 50=some (118,10,152):=by kernel_rfl
@[simp] theorem makeOf_50:makeOf Tryz.prog 50=some ([.d (.v (.string ⟨#[]⟩)), .d (.v (.string ⟨#[]⟩)), .fl [] 0, .d (.v (.bool false)), .d (.v (.bool false)), .d (.v (.int .i64 0)), .d (.v (.int .i64 0)), .d (.v (.string ⟨#[]⟩)), .fl [] 0, .fl [] 0],10,152):=by kernel_rfl
@[simp] theorem zerosOf_50:zerosOf Tryz.prog 50=some ([.v (.string ⟨#[]⟩), .v (.string ⟨#[]⟩), .ps [] 0, .v (.bool false), .v (.bool false), .v (.int .i64 0), .v (.int .i64 0), .v (.string ⟨#[]⟩), .ps [] 0, .ps [] 0],10):=by kernel_rfl
@[simp] theorem loadG_50 {α:Type} (mk:List α→α) (cs:List α) (off:Nat):loadG mk Tryz.prog 50 cs off=cs[off]?:=by kernel_rfl
@[simp] theorem szOf_52:szOf Tryz.prog 52=some (5):=by kernel_rfl
@[simp] theorem zeroCellsOf_52:zeroCellsOf Tryz.prog 52=some [.d (.v (.string ⟨#[]⟩)), .fl [] 0, .d (.v (.string ⟨#[]⟩)), .fl [] 0, .d (.v (.bool false))]:=by kernel_rfl
@[simp] theorem fieldOf0_52:fieldOf Tryz.prog 52 0=some 0:=by kernel_rfl
@[simp] theorem placeOf0_52:placeOf Tryz.prog 52 0=some (0,1):=by kernel_rfl
@[simp] theorem fieldOf1_52:fieldOf Tryz.prog 52 1=some 1:=by kernel_rfl
@[simp] theorem fieldOf2_52:fieldOf Tryz.prog 52 2=some 2:=by kernel_rfl
@[simp] theorem placeOf2_52:placeOf Tryz.prog 52 2=some (2,3):=by kernel_rfl
@[simp] theorem sized_52:sized Tryz.prog 52=true:=by kernel_rfl
@[simp] theorem loadG_52 {α:Type} (mk:List α→α) (cs:List α) (off:Nat):loadG mk Tryz.prog 52 cs off=if off+5≤cs.length then some (mk ((cs.drop off).take 5)) else none:=by kernel_rfl
@[simp] theorem isMap_72:isMap Tryz.prog 72=true:=by kernel_rfl
@[simp] theorem mapOf_72:Sh.mapOf Tryz.prog 72=some 29:=by kernel_rfl
@[simp] theorem loadG_72 {α:Type} (mk:List α→α) (cs:List α) (off:Nat):loadG mk Tryz.prog 72 cs off=cs[off]?:=by kernel_rfl
@[simp] theorem szOf_83:szOf Tryz.prog 83=some (1):=by kernel_rfl
@[simp] theorem zeroCellsOf_83:zeroCellsOf Tryz.prog 83=some [.d (.v (.nilFunc))]:=by kernel_rfl
@[simp] theorem loadG_83 {α:Type} (mk:List α→α) (cs:List α) (off:Nat):loadG mk Tryz.prog 83 cs off=cs[off]?:=by kernel_rfl
@[simp] theorem szOf_118:szOf Tryz.prog 118=some (10):=by kernel_rfl
@[simp] theorem zeroCellsOf_118:zeroCellsOf Tryz.prog 118=some [.d (.v (.string ⟨#[]⟩)), .d (.v (.string ⟨#[]⟩)), .fl [] 0, .d (.v (.bool false)), .d (.v (.bool false)), .d (.v (.int .i64 0)), .d (.v (.int .i64 0)), .d (.v (.string ⟨#[]⟩)), .fl [] 0, .fl [] 0]:=by kernel_rfl
@[simp] theorem fieldOf0_118:fieldOf Tryz.prog 118 0=some 0:=by kernel_rfl
@[simp] theorem placeOf0_118:placeOf Tryz.prog 118 0=some (0,1):=by kernel_rfl
@[simp] theorem fieldOf1_118:fieldOf Tryz.prog 118 1=some 1:=by kernel_rfl
@[simp] theorem placeOf1_118:placeOf Tryz.prog 118 1=some (1,3):=by kernel_rfl
@[simp] theorem fieldOf2_118:fieldOf Tryz.prog 118 2=some 4:=by kernel_rfl
@[simp] theorem placeOf2_118:placeOf Tryz.prog 118 2=some (4,1):=by kernel_rfl
@[simp] theorem fieldOf3_118:fieldOf Tryz.prog 118 3=some 5:=by kernel_rfl
@[simp] theorem placeOf3_118:placeOf Tryz.prog 118 3=some (5,5):=by kernel_rfl
@[simp] theorem sized_118:sized Tryz.prog 118=true:=by kernel_rfl
@[simp] theorem loadG_118 {α:Type} (mk:List α→α) (cs:List α) (off:Nat):loadG mk Tryz.prog 118 cs off=if off+10≤cs.length then some (mk ((cs.drop off).take 10)) else none:=by kernel_rfl
@[simp] theorem mapOf_123:Sh.mapOf Tryz.prog 123=some 3:=by kernel_rfl
@[simp] theorem isSlice_131:isSlice Tryz.prog 131=true:=by kernel_rfl
@[simp] theorem elemOf_131:Sh.elemOf Tryz.prog 131=some (3,1):=by kernel_rfl
@[simp] theorem makeOf_131:makeOf Tryz.prog 131=some ([.d (.v (.int .i64 0))],1,8):=by kernel_rfl
@[simp] theorem zerosOf_131:zerosOf Tryz.prog 131=some ([.v (.int .i64 0)],1):=by kernel_rfl
@[simp] theorem zeroCellsOf_136:zeroCellsOf Tryz.prog 136=some [.fl [] 0, .d (.v (.int .i64 0))]:=by kernel_rfl
@[simp] theorem fieldOf0_136:fieldOf Tryz.prog 136 0=some 0:=by kernel_rfl
@[simp] theorem placeOf0_136:placeOf Tryz.prog 136 0=some (0,1):=by kernel_rfl
@[simp] theorem fieldOf1_136:fieldOf Tryz.prog 136 1=some 1:=by kernel_rfl
@[simp] theorem sized_136:sized Tryz.prog 136=true:=by kernel_rfl
@[simp] theorem nilEqN_144:evalNil Tryz.prog .eql 144 (.d (.v .nilIface)) .nilIface=some (.d (.v (.bool true))):=by kernel_rfl
@[simp] theorem nilEqI_144 (t:TypeId) (x:D):evalNil Tryz.prog .eql 144 (.d (.ifc t x)) .nilIface=some (.d (.v (.bool false))):=by kernel_rfl
@[simp] theorem isIface_146:isIface Tryz.prog 146=some (false):=by kernel_rfl
@[simp] theorem concrete_146:concrete Tryz.prog 146=true:=by kernel_rfl
@[simp] theorem zeroS_146:zeroS Tryz.prog 146=some (.d (.v (.string ⟨#[]⟩))):=by kernel_rfl
@[simp] theorem isIface_147:isIface Tryz.prog 147=some (false):=by kernel_rfl
@[simp] theorem concrete_147:concrete Tryz.prog 147=true:=by kernel_rfl
@[simp] theorem zeroS_147:zeroS Tryz.prog 147=some (.d (.v (.string ⟨#[]⟩))):=by kernel_rfl
@[simp] theorem szOf_168:szOf Tryz.prog 168=some (10):=by kernel_rfl
@[simp] theorem zeroCellsOf_168:zeroCellsOf Tryz.prog 168=some [.d (.v (.int .i64 0)), .d (.v (.int .i64 0)), .d (.v (.string ⟨#[]⟩)), .fl [] 0, .fl [] 0, .d (.v (.int .i64 0)), .d (.v (.int .i64 0)), .d (.v (.string ⟨#[]⟩)), .fl [] 0, .fl [] 0]:=by kernel_rfl
@[simp] theorem fieldOf0_168:fieldOf Tryz.prog 168 0=some 0:=by kernel_rfl
@[simp] theorem placeOf0_168:placeOf Tryz.prog 168 0=some (0,5):=by kernel_rfl
@[simp] theorem fieldOf1_168:fieldOf Tryz.prog 168 1=some 5:=by kernel_rfl
@[simp] theorem placeOf1_168:placeOf Tryz.prog 168 1=some (5,5):=by kernel_rfl
@[simp] theorem sized_168:sized Tryz.prog 168=true:=by kernel_rfl
@[simp] theorem loadG_168 {α:Type} (mk:List α→α) (cs:List α) (off:Nat):loadG mk Tryz.prog 168 cs off=if off+10≤cs.length then some (mk ((cs.drop off).take 10)) else none:=by kernel_rfl
@[simp] theorem isSlice_169:isSlice Tryz.prog 169=true:=by kernel_rfl
@[simp] theorem elemOf_169:Sh.elemOf Tryz.prog 169=some (168,10):=by kernel_rfl
@[simp] theorem makeOf_169:makeOf Tryz.prog 169=some ([.d (.v (.int .i64 0)), .d (.v (.int .i64 0)), .d (.v (.string ⟨#[]⟩)), .fl [] 0, .fl [] 0, .d (.v (.int .i64 0)), .d (.v (.int .i64 0)), .d (.v (.string ⟨#[]⟩)), .fl [] 0, .fl [] 0],10,160):=by kernel_rfl
@[simp] theorem zerosOf_169:zerosOf Tryz.prog 169=some ([.v (.int .i64 0), .v (.int .i64 0), .v (.string ⟨#[]⟩), .ps [] 0, .ps [] 0, .v (.int .i64 0), .v (.int .i64 0), .v (.string ⟨#[]⟩), .ps [] 0, .ps [] 0],10):=by kernel_rfl
@[simp] theorem isIface_180:isIface Tryz.prog 180=some (false):=by kernel_rfl
@[simp] theorem zeroCellsOf_180:zeroCellsOf Tryz.prog 180=some []:=by kernel_rfl
@[simp] theorem sized_180:sized Tryz.prog 180=true:=by kernel_rfl
@[simp] theorem isIface_181:isIface Tryz.prog 181=some (false):=by kernel_rfl
@[simp] theorem isIface_182:isIface Tryz.prog 182=some (false):=by kernel_rfl
@[simp] theorem isIface_183:isIface Tryz.prog 183=some (false):=by kernel_rfl
@[simp] theorem isIface_184:isIface Tryz.prog 184=some (false):=by kernel_rfl
@[simp] theorem isIface_186:isIface Tryz.prog 186=some (false):=by kernel_rfl
@[simp] theorem zeroCellsOf_186:zeroCellsOf Tryz.prog 186=some [.fl [] 0, .fl [] 0]:=by kernel_rfl
@[simp] theorem placeOf0_186:placeOf Tryz.prog 186 0=some (0,1):=by kernel_rfl
@[simp] theorem fieldOf1_186:fieldOf Tryz.prog 186 1=some 1:=by kernel_rfl
@[simp] theorem placeOf1_186:placeOf Tryz.prog 186 1=some (1,1):=by kernel_rfl
@[simp] theorem sized_186:sized Tryz.prog 186=true:=by kernel_rfl
@[simp] theorem zeroCellsOf_193:zeroCellsOf Tryz.prog 193=some [.fl [] 0, .d (.v (.int .i64 0)), .d (.v (.bool false))]:=by kernel_rfl
@[simp] theorem fieldOf0_193:fieldOf Tryz.prog 193 0=some 0:=by kernel_rfl
@[simp] theorem placeOf0_193:placeOf Tryz.prog 193 0=some (0,1):=by kernel_rfl
@[simp] theorem fieldOf1_193:fieldOf Tryz.prog 193 1=some 1:=by kernel_rfl
@[simp] theorem fieldOf2_193:fieldOf Tryz.prog 193 2=some 2:=by kernel_rfl
@[simp] theorem sized_193:sized Tryz.prog 193=true:=by kernel_rfl
end Go.Proofs.YtlmpjblmmpddeaaGreat
namespace Go.Proofs.YtlmpjblmmpddeaaGreat
open Go.Sh
variable {gl:Nat→Option D}
abbrev dI (n:Int):D:=.v (.int .i64 n)
abbrev dB (b:Bool):D:=.v (.bool b)
abbrev dS (s:ByteArray):D:=.v (.string s)
abbrev dY (n:Int):D:=.v (.int .u8 n)
theorem wrap64 {n:Int} (h : -9223372036854775808≤n) (h':n≤9223372036854775807):IntKind.i64.wrap n=n:=by rw[IntKind.wrap_i64];omega
@[simp] theorem wrap_lit (n:Int) (h : -9223372036854775808≤n) (h':n≤9223372036854775807):IntKind.i64.wrap n=n:=wrap64 h h'
@[simp] theorem bits_i64:IntKind.i64.bits=64:=(rfl)
def allTo (p:Nat→Bool) (n:Nat):Bool:=(List.range n).all p
theorem allTo_true {p:Nat→Bool}{n:Nat} (h:∀ j,j<n→p j=true):allTo p n=true:=List.all_eq_true.2 fun j hj=>h j (List.mem_range.1 hj)
theorem allTo_false {p:Nat→Bool}{n i:Nat} (hi:i<n) (h:p i=false):allTo p n=false:=by
  cases hb:allTo p n with
  | false=>rfl
  | true=>have:=List.all_eq_true.1 hb i (List.mem_range.2 hi);rw[h] at this;cases this
theorem allTo_iff {p:Nat→Bool}{n:Nat}:allTo p n=true↔∀ j,j<n→p j=true :=
  ⟨fun h j hj=>List.all_eq_true.1 h j (List.mem_range.2 hj),allTo_true⟩
theorem next_all {p:Nat→Bool}{i:Nat} (hp:∀ j,j<i→p j=true) (h:p i=true):∀ j,j<i+1→p j=true:=fun j hj=>by
  rcases Nat.lt_or_ge j i with h1 | h1
  · exact hp j h1
  · have:j=i:=by omega
    subst this;exact h
abbrev namesD (l:List ByteArray):D:=.ps (l.map dS) l.length
def NamesOk (l:List ByteArray):Prop:=l.length≤4611686018427387903∧∀ s∈l,s.size≤4611686018427387904
def upTo (k n:Nat) (E:Env) (S:St):Nat:=match E k with | some (.d (.v (.int _ i)))=>n - i.toNat | _=>0
theorem upTo_lt {k n i:Nat}{E E':Env}{S S':St} (h:E k=some (.d (dI i))) (h':E' k=some (.d (dI ((i:Int)+1)))) (hi:i<n):upTo k n E' S'<upTo k n E S:=by
  unfold upTo
  rw[h,h']
  simp only
  omega
section
variable {α β:Type}{enc:α→List β}{k:Nat}
theorem row_len (h:∀ x,(enc x).length=k):∀ l:List α,(l.flatMap enc).length=l.length*k
  | []=>by simp
  | x::r=>by rw[List.flatMap_cons,List.length_append,h x,row_len h r,List.length_cons,Nat.add_mul];omega
theorem row_drop (h:∀ x,(enc x).length=k):∀ (l:List α) (i:Nat),(l.flatMap enc).drop (i*k)=(l.drop i).flatMap enc
  | [],i=>by simp
  | x::r,0=>by simp
  | x::r,i+1=>by
    rw[List.flatMap_cons,List.drop_succ_cons, ← row_drop h r i,Nat.add_mul,Nat.one_mul,List.drop_append,h x]
    rw[List.drop_eq_nil_of_le (by rw[h x];omega),List.nil_append]
    congr 1;omega
theorem row_at (h:∀ x,(enc x).length=k) (l:List α) (i:Nat) (hi:i<l.length):((l.flatMap enc).drop (i*k)).take k=enc l[i]:=by
  rw[row_drop h,List.drop_eq_getElem_cons hi,List.flatMap_cons,List.take_append,h]
  rw[List.take_of_length_le (by rw[h];omega)]
  simp
variable {z:List β}
end
@[simp] theorem drop_made {α:Type} (f:Nat→α) (n:Nat):((List.range n).map f).drop n=[]:=by simp
def lookN {α:Type}:List (Nat×α)→Nat→Option α
  | [],_=>none
  | (k,v)::r,x=>if x=k then some v else lookN r x
@[simp] theorem lookN_nil {α:Type} (x:Nat):lookN (α:=α) [] x=none:=(rfl)
@[simp] theorem lookN_cons {α:Type} (k:Nat) (v:α) (r:List (Nat×α)) (x:Nat):lookN ((k,v)::r) x=if x=k then some v else lookN r x:=(rfl)
theorem lookN_mem {α:Type}:∀ {L:List (Nat×α)}{x:Nat}{y:α},lookN L x=some y→(x,y)∈L
  | (k,v)::L,x,y,h=>by
    simp only[lookN_cons] at h
    split at h
    · rename_i e
      cases h;subst e
      exact List.mem_cons_self
    · exact List.mem_cons_of_mem _ (lookN_mem h)
def leftF {α:Type} (n:Nat) (f:Nat→Option α) (L:List (Nat×α)) (x:Nat):Option α:=match lookN L x with | some cs=>some cs | none=>if x<n then f x else none
theorem leftF_less {α:Type}{n:Nat}{f g:Nat→Option α}{L:List (Nat×α)} (h1:∀ p∈L,g p.1=some p.2) (h2:∀ x,x<n→lookN L x=none→g x=f x) {x:Nat}{y:α} (h:leftF n f L x=some y):g x=some y:=by
  unfold leftF at h
  split at h
  · rename_i cs' h3
    cases h
    exact h1 _ (lookN_mem h3)
  · rename_i h3
    split at h
    · rename_i h4;rw[h2 x h4 h3];exact h
    · cases h
theorem leftF_old {α:Type}{n:Nat}{f:Nat→Option α}{L:List (Nat×α)}{x:Nat} (h:lookN L x=none) (hx:x<n):leftF n f L x=f x:=by
  unfold leftF;rw[h];exact if_pos hx
def leftS (S:St) (k:Nat) (B:List (Nat×List SV)) (T:List (Nat×(Nat×Nat))):St :=
  { S with B:=leftF S.nx S.B B,T:=leftF S.nx S.T T,nx:=S.nx+k }
theorem leftS_keeps (S:St) (k:Nat) (B:List (Nat×List SV)) (T:List (Nat×(Nat×Nat))):Keeps S (leftS S k B T):=⟨rfl,rfl,rfl,by simp[leftS]⟩
theorem elder_left {S S1:St}{k:Nat}{B:List (Nat×List SV)}{T:List (Nat×(Nat×Nat))} (hB:∀ p∈B,S1.B p.1=some p.2) (hT:∀ p∈T,S1.T p.1=some p.2) (hBl:∀ p∈B,p.1<S.nx+k∧ltS (S.nx+k) p.2=true) (hTl:∀ p∈T,p.1<S.nx+k)
    (hB2:∀ x,x<S.nx→lookN B x=none→S1.B x=S.B x) (hT2:∀ x,x<S.nx→lookN T x=none→S1.T x=S.T x):Elder S (leftS S k B T) S1:=by
  refine⟨rfl,rfl,rfl,Nat.le_add_right _ _,fun b cs h=>?_,fun i p h=>?_,fun b h=>leftF_less hB hB2 h⟩
  · have h1:=leftF_less hB hB2 h
    simp only[leftS,leftF] at h ⊢
    split at h
    · rename_i cs' h3
      cases h
      have:=hBl _ (lookN_mem h3)
      exact⟨this.1,⟨[],by simpa using h1⟩, .inl this.2⟩
    · split at h
      · rename_i h4;exact⟨by omega,⟨[],by simpa using h1⟩, .inr h⟩
      · cases h
  · have h1:=leftF_less hT hT2 h
    simp only[leftS,leftF] at h ⊢
    split at h
    · rename_i cs' h3
      exact⟨hTl _ (lookN_mem h3),h1⟩
    · split at h
      · rename_i h4;exact⟨by omega,h1⟩
      · cases h
@[simp] theorem leftS_n (S:St) (k:Nat) (B:List (Nat×List SV)) (T:List (Nat×(Nat×Nat))):(leftS S k B T).n=S.n:=(rfl)
@[simp] theorem leftS_md (S:St) (k:Nat) (B:List (Nat×List SV)) (T:List (Nat×(Nat×Nat))):(leftS S k B T).md=S.md:=(rfl)
@[simp] theorem leftS_gl (S:St) (k:Nat) (B:List (Nat×List SV)) (T:List (Nat×(Nat×Nat))):(leftS S k B T).gl=S.gl:=(rfl)
@[simp] theorem leftS_nx (S:St) (k:Nat) (B:List (Nat×List SV)) (T:List (Nat×(Nat×Nat))):(leftS S k B T).nx=S.nx+k:=(rfl)
@[simp] theorem leftS_B (S:St) (k:Nat) (B:List (Nat×List SV)) (T:List (Nat×(Nat×Nat))) (x:Nat):(leftS S k B T).B x=leftF S.nx S.B B x:=(rfl)
@[simp] theorem leftS_T (S:St) (k:Nat) (B:List (Nat×List SV)) (T:List (Nat×(Nat×Nat))) (x:Nat):(leftS S k B T).T x=leftF S.nx S.T T x:=(rfl)
@[simp] theorem leftF_cons {α:Type} (n:Nat) (f:Nat→Option α) (k:Nat) (v:α) (r:List (Nat×α)) (x:Nat):leftF n f ((k,v)::r) x=if x=k then some v else leftF n f r x:=by
  unfold leftF;simp only[lookN_cons];by_cases h:x=k<;>simp[h]
@[simp] theorem leftF_nil {α:Type} (n:Nat) (f:Nat→Option α) (x:Nat):leftF n f [] x=if x<n then f x else none:=by
  unfold leftF;simp only[lookN_nil]
def Old (S0:St) (bs ts:List Nat) (S:St):Prop:=∀ x,x<S0.nx→(¬ x∈bs→S.B x=S0.B x)∧(¬ x∈ts→S.T x=S0.T x)
section
variable {S0 S:St}{bs ts:List Nat}
theorem Old.refl (S0:St) (bs ts:List Nat):Old S0 bs ts S0:=fun _ _=>⟨fun _=>rfl,fun _=>rfl⟩
theorem Old.more {bs' ts':List Nat} (h:Old S0 bs ts S) (hb:∀ x∈bs,x∈bs') (ht:∀ x∈ts,x∈ts'):Old S0 bs' ts' S :=
  fun x hx=>⟨fun h1=>(h x hx).1 fun h2=>h1 (hb x h2),fun h1=>(h x hx).2 fun h2=>h1 (ht x h2)⟩
@[simp] theorem old_adv {k:Nat}:Old S0 bs ts (S.adv k)=Old S0 bs ts S:=(rfl)
@[simp] theorem old_mk {n nx:Nat}{md:List Nat}{gl:Nat→Option D}:Old S0 bs ts { B:=S0.B,T:=S0.T,n:=n,nx:=nx,md:=md,gl:=gl }=True:=by
  simp[Old]
theorem old_set {q:Nat}{cs:List SV} (h:S0.nx≤q):Old S0 bs ts (S.set q cs)=Old S0 bs ts S:=by
  unfold Old
  refine propext (forall_congr' fun x=>forall_congr' fun hx=>?_)
  simp[show ¬ x=q by omega]
theorem old_new {q:Nat}{cs:List SV} (h:S0.nx≤q):Old S0 bs ts (S.new q cs)=Old S0 bs ts S:=by
  unfold Old
  refine propext (forall_congr' fun x=>forall_congr' fun hx=>?_)
  simp[show ¬ x=q by omega]
theorem old_tip {q k sz:Nat} (h:S0.nx≤q):Old S0 bs ts (S.tipTo q k sz)=Old S0 bs ts S:=by
  unfold Old
  refine propext (forall_congr' fun x=>forall_congr' fun hx=>?_)
  simp[St.tipTo,show ¬ x=q by omega]
theorem old_setIn {q:Nat}{cs:List SV} (h:q∈bs):Old S0 bs ts (S.set q cs)=Old S0 bs ts S:=by
  unfold Old
  refine propext (forall_congr' fun x=>forall_congr' fun hx=>?_)
  by_cases hb:x∈bs
  · simp[hb]
  · simp[hb,show ¬ x=q from fun e=>hb (e▸h)]
theorem old_tipIn {q k sz:Nat} (h:q∈ts):Old S0 bs ts (S.tipTo q k sz)=Old S0 bs ts S:=by
  unfold Old
  refine propext (forall_congr' fun x=>forall_congr' fun hx=>?_)
  by_cases hb:x∈ts
  · simp[hb,St.tipTo]
  · simp[hb,St.tipTo,show ¬ x=q from fun e=>hb (e▸h)]
theorem old_left {k:Nat}{B:List (Nat×List SV)}{T:List (Nat×(Nat×Nat))} (h:S0.nx≤S.nx) (hB:∀ p∈B,p.1∈bs∨S0.nx≤p.1) (hT:∀ p∈T,p.1∈ts∨S0.nx≤p.1) (ho:Old S0 bs ts S):Old S0 bs ts (leftS S k B T):=by
  intro x hx
  refine⟨fun hb=>?_,fun ht=>?_⟩
  · have:lookN B x=none:=by
      cases hl:lookN B x with
      | none=>rfl
      | some y => rcases hB _ (lookN_mem hl) with h1 | h1 <;> simp only at h1
                  · exact absurd h1 hb
                  · omega
    simp only[leftS]
    rw[leftF_old this (by omega)]
    exact (ho x hx).1 hb
  · have:lookN T x=none:=by
      cases hl:lookN T x with
      | none=>rfl
      | some y => rcases hT _ (lookN_mem hl) with h1 | h1 <;> simp only at h1
                  · exact absurd h1 ht
                  · omega
    simp only[leftS]
    rw[leftF_old this (by omega)]
    exact (ho x hx).2 ht
end
theorem elder_old {S0 S1:St}{k:Nat}{B:List (Nat×List SV)}{T:List (Nat×(Nat×Nat))}{bs ts:List Nat} (h:Old S0 bs ts S1) (hB:∀ p∈B,S1.B p.1=some p.2) (hT:∀ p∈T,S1.T p.1=some p.2) (hBl:∀ p∈B,p.1<S0.nx+k∧ltS (S0.nx+k) p.2=true) (hTl:∀ p∈T,p.1<S0.nx+k)
    (hB2:∀ x∈bs,x<S0.nx→lookN B x=none→S1.B x=S0.B x) (hT2:∀ x∈ts,x<S0.nx→lookN T x=none→S1.T x=S0.T x):Elder S0 (leftS S0 k B T) S1 :=
  elder_left hB hT hBl hTl (fun x hx hl=>if hb:x∈bs then hB2 x hb hx hl else (h x hx).1 hb) (fun x hx hl=>if hb:x∈ts then hT2 x hb hx hl else (h x hx).2 hb)
theorem p_l1In (a b c:Int):PCall Tryz.prog gl 118 [dI a,dI b,dI c] (dB (decide (b≤a)&&decide (a≤c))):=by
  refine PCall.by_ (md:=[]) Tryz.func118 rfl (by kernel_rfl) (n:=15) Tryz.ntmps118 (by simp) (by decide) rfl ?_
  simp
  refine BrT.dec (fun h=>?_) (fun h=>?_)<;>simp[h]
def letterB (n:Int):Bool:=(decide (97≤n)&&decide (n≤122)) || (decide (65≤n)&&decide (n≤90)) || decide (n=95)
def figureB (n:Int):Bool:=decide (48≤n)&&decide (n≤57)
theorem p_l1Letter (n:Int):PCall Tryz.prog gl 159 [dY n] (dB (letterB n)):=by
  refine PCall.by_ (md:=[]) Tryz.func159 rfl (by kernel_rfl) (n:=21) Tryz.ntmps159 (by simp) (by decide) rfl ?_
  simp
  repeat' first
    | (refine BrT.dec (fun h=>?_) (fun h=>?_)<;>simp[h])
  all_goals (unfold letterB;simp[*])
theorem p_l1Figure (n:Int):PCall Tryz.prog gl 160 [dY n] (dB (figureB n)):=by
  refine PCall.by_ (md:=[]) Tryz.func160 rfl (by kernel_rfl) (n:=9) Tryz.ntmps160 (by simp) (by decide) rfl ?_
  simp
  repeat' first
    | (refine BrT.dec (fun h=>?_) (fun h=>?_)<;>simp[h])
  all_goals (unfold figureB;simp[*])
theorem p_isFigure (n:Int):PCall Tryz.prog gl 154 [dY n] (dB (figureB n)):=by
  refine PCall.by_ (md:=[]) Tryz.func154 rfl (by kernel_rfl) (n:=9) Tryz.ntmps154 (by simp) (by decide) rfl ?_
  simp
  repeat' first
    | (refine BrT.dec (fun h=>?_) (fun h=>?_)<;>simp[h])
  all_goals (unfold figureB;simp[*])
theorem p_isWordByte (n:Int):PCall Tryz.prog gl 155 [dY n] (dB (letterB n || figureB n)):=by
  refine PCall.by_ (md:=[]) Tryz.func155 rfl (by kernel_rfl) (n:=25) Tryz.ntmps155 (by simp) (by decide) rfl ?_
  simp
  repeat' first
    | (refine BrT.dec (fun h=>?_) (fun h=>?_)<;>simp[h])
    | (refine CallT.p (p_isFigure _) rfl rfl ?_;simp)
  all_goals (unfold letterB;simp[*])
def nameP (s:ByteArray) (i:Nat):Bool:=letterB (byteI s i) || (!decide (i=0)&&figureB (byteI s i))
def nameB (s:ByteArray):Bool:=allTo (nameP s) s.size&&(decide (1≤(s.size:Int))&&decide ((s.size:Int)≤12))
set_option maxHeartbeats 1000000 in
theorem p_l1Name (s:ByteArray) (hs:s.size≤4611686018427387904):PCall Tryz.prog gl 116 [dS s] (dB (nameB s)):=by
  refine PCall.by_ (md:=[]) Tryz.func116 rfl (by kernel_rfl) (n:=29) Tryz.ntmps116 (by simp) (by decide) rfl ?_
  simp
  refine LoopT.round (fun E S=>∃ i:Nat,i≤s.size∧E 0=some (.d (dS s))∧E 3=some (.d (dI i))∧(∀ j,j<i→nameP s j=true)) (fun E S=>match E 3 with | some (.d (.v (.int _ i)))=>s.size - i.toNat | _=>0) ⟨0,by simp⟩ ?_
  rintro E S hk ⟨i,hi,h0,h3,hp⟩
  have hn:S.n=29:=by simpa using hk.n
  have hg:S.gl=gl:=by simpa using hk.gl
  have w:IntKind.i64.wrap ((i:Int)+1)=(i:Int)+1:=wrap64 (by omega) (by omega)
  simp[h0,h3,hn]
  refine BrT.dec (fun h=>?_) (fun h=>?_)
  · have hi2:i<s.size:=by omega
    simp[h0,h3,hn,hi2]
    refine CallT.p (p_l1Letter _) (by first | rfl | simp[hg]) rfl ?_
    simp[hn]
    have bad:nameP s i=false→nameB s=false:=fun h1=>by rw[nameB,allTo_false hi2 h1];rfl
    refine BrT.mk (fun hl=>?_) (fun hl=>?_)
    · simp[h0,h3,hn,hl,w]
      exact⟨⟨i+1,by omega,rfl,next_all hp (by simp[nameP,hl])⟩,by omega⟩
    · simp[h3,hn,hl]
      refine BrT.dec (fun hz=>?_) (fun hz=>?_)
      · have hq:=bad (by subst hz;simp[nameP,hl])
        simp[hn,hz,hq]
      · simp[h0,h3,hn,hz,hi2]
        refine CallT.p (p_l1Figure _) (by first | rfl | simp[hg]) rfl ?_
        simp[hn]
        refine BrT.mk (fun hf=>?_) (fun hf=>?_)
        · simp[h0,h3,hn,hf,w]
          exact⟨⟨i+1,by omega,rfl,next_all hp (by simp[nameP,hl,hz,hf])⟩,by omega⟩
        · have hq:=bad (by simp[nameP,hl,hz,hf])
          simp[hn,hf,hq]
  · simp[h0,hn]
    have hi3:i=s.size:=by omega
    subst hi3
    refine CallT.p (p_l1In _ _ _) (by first | rfl | simp[hg]) rfl ?_
    simp[nameB,allTo_true hp,hn]
theorem nameB_short {s:ByteArray} (h:(s.size:Int)<1):nameB s=false:=by
  have:¬ (1≤(s.size:Int)):=by omega
  simp[nameB,this]
theorem nameB_long {s:ByteArray} (h:12<(s.size:Int)):nameB s=false:=by
  have:¬ ((s.size:Int)≤12):=by omega
  simp[nameB,this]
theorem not_letter {n:Int} (h:figureB n=true):letterB n=false:=by
  simp only[figureB,letterB,Bool.and_eq_true,Bool.or_eq_false_iff,decide_eq_true_eq,Bool.and_eq_false_iff,decide_eq_false_iff_not] at *
  omega
set_option maxHeartbeats 1000000 in
theorem p_isName (s:ByteArray) (hs:s.size≤4611686018427387904):PCall Tryz.prog gl 101 [dS s] (dB (nameB s)):=by
  refine PCall.by_ (md:=[]) Tryz.func101 rfl (by kernel_rfl) (n:=28) Tryz.ntmps101 (by simp) (by decide) rfl ?_
  simp
  refine BrT.dec (fun h=>?_) (fun h=>?_)
  · simp[h,nameB_short (s:=s) (by omega)]
  have h1:0<s.size:=by omega
  simp[h]
  refine BrT.dec (fun h2=>?_) (fun h2=>?_)
  · simp[h2,nameB_long (s:=s) (by omega)]
  simp[h2,h1]
  refine CallT.p (p_isFigure _) rfl rfl ?_
  simp
  refine BrT.mk (fun hf=>?_) (fun hf=>?_)
  · have:nameB s=false:=by
      rw[nameB,allTo_false h1 (by simp[nameP,not_letter hf])];rfl
    simp[hf,this]
  simp[hf]
  refine LoopT.round (fun E S=>∃ i:Nat,i≤s.size∧E 0=some (.d (dS s))∧E 18=some (.d (dI s.size))∧E 19=some (.d (dI i))∧(∀ j,j<i→nameP s j=true)) (fun E S=>match E 19 with | some (.d (.v (.int _ i)))=>s.size - i.toNat | _=>0) ⟨0,by simp⟩ ?_
  rintro E S hk ⟨i,hi,h0,h18,h19,hp⟩
  have hn:S.n=28:=by simpa using hk.n
  have hg:S.gl=gl:=by simpa using hk.gl
  have w:IntKind.i64.wrap ((i:Int)+1)=(i:Int)+1:=wrap64 (by omega) (by omega)
  simp[h18,h19,hn]
  refine BrT.dec (fun h3=>?_) (fun h3=>?_)
  · have hi2:i<s.size:=by omega
    simp[h0,h19,hn,hi2]
    have key:(letterB (byteI s i) || figureB (byteI s i))=nameP s i:=by
      by_cases hz:i=0
      · subst hz;simp[nameP,hf]
      · simp[nameP,hz]
    have pw:=p_isWordByte (gl:=gl) (byteI s i)
    rw[key] at pw
    refine CallT.p pw (by first | rfl | simp[hg]) rfl ?_
    simp[hn]
    refine BrT.mk (fun hl=>?_) (fun hl=>?_)
    · simp[h0,h18,h19,hn,hl,w]
      exact⟨⟨i+1,by omega,rfl,next_all hp hl⟩,by omega⟩
    · have hq:nameB s=false:=by rw[nameB,allTo_false hi2 hl];rfl
      simp[hn,hl,hq]
  · have hi3:i=s.size:=by omega
    subst hi3
    have c1:(1:Int)≤s.size:=by omega
    have c2:(s.size:Int)≤12:=by omega
    have hq:nameB s=true:=by simp[nameB,allTo_true hp];omega
    simp[hn,hq]
def idxI (x:ByteArray) (l:List ByteArray):Int:=if l.findIdx (fun y=>decide (x=y))<l.length then (l.findIdx (fun y=>decide (x=y)):Int) else -1
theorem idxI_found {x:ByteArray}{l:List ByteArray}{i:Nat} (hi:i<l.length) (h:∀ j (hj:j<l.length),j<i→x≠l[j]) (he:x=l[i]):idxI x l=i:=by
  have e:l.findIdx (fun y=>decide (x=y))=i:=by
    rw[List.findIdx_eq hi]
    exact⟨by simp[he],fun j hj=>by simpa using h j (by omega) hj⟩
  unfold idxI
  rw[e,if_pos hi]
theorem idxI_none {x:ByteArray}{l:List ByteArray} (h:∀ j (hj:j<l.length),x≠l[j]):idxI x l = -1:=by
  unfold idxI
  rw[if_neg]
  intro hlt
  have:=List.findIdx_getElem (w:=hlt)
  simp at this
  exact h _ hlt this
def memB (x:ByteArray) (l:List ByteArray):Bool:=l.any fun y=>decide (x=y)
theorem memB_iff {x:ByteArray}{l:List ByteArray}:memB x l=true↔x∈l:=by
  simp[memB]
theorem idxI_mem {x:ByteArray}{l:List ByteArray}:decide (0≤idxI x l)=memB x l:=by
  by_cases h:x∈l
  · have hlt:l.findIdx (fun y=>decide (x=y))<l.length:=List.findIdx_lt_length_of_exists ⟨x,h,by simp⟩
    rw[memB_iff.2 h]
    unfold idxI
    rw[if_pos hlt]
    simp
  · have:idxI x l = -1:=idxI_none fun j hj e=>h (e▸List.getElem_mem hj)
    have hb:memB x l=false:=by
      cases hb:memB x l with
      | false=>rfl
      | true=>exact absurd (memB_iff.1 hb) h
    rw[this,hb]
    simp
set_option maxHeartbeats 1000000 in
theorem p_Index (l:List ByteArray) (x:ByteArray) (hl:l.length≤4611686018427387904):PCall Tryz.prog gl 157 [namesD l,dS x] (dI (idxI x l)):=by
  refine PCall.by_ (md:=[]) Tryz.func157 rfl (by kernel_rfl) (n:=19) Tryz.ntmps157 (by simp) (by decide) rfl ?_
  simp
  refine LoopT.round (fun E S=>∃ i:Nat,i≤l.length∧E 0=some (.d (namesD l))∧E 1=some (.d (dS x))∧E 7=some (.d (dI l.length))∧E 8=some (.d (dI i))∧(∀ j (hj:j<l.length),j<i→x≠l[j])) (upTo 8 l.length) ⟨0,by simp⟩ ?_
  rintro E S hk ⟨i,hi,h0,h1,h7,h8,hp⟩
  have hn:S.n=19:=by simpa using hk.n
  have w:IntKind.i64.wrap ((i:Int)+1)=(i:Int)+1:=wrap64 (by omega) (by omega)
  simp[h7,h8,hn]
  refine BrT.dec (fun h=>?_) (fun h=>?_)
  · have hi2:i<l.length:=by omega
    simp[h0,h1,h8,hn,hi2]
    refine BrT.dec (fun he=>?_) (fun he=>?_)
    · simp[hn,idxI_found hi2 hp he]
    · simp[h0,h1,h7,h8,hn,w]
      refine⟨⟨i+1,by omega,rfl,fun j hj hji=>?_⟩,upTo_lt h8 (by simp) hi2⟩
      rcases Nat.lt_or_ge j i with c | c
      · exact hp j hj c
      · have:j=i:=by omega
        subst this;exact he
  · have:idxI x l = -1:=idxI_none fun j hj=>hp j hj (by omega)
    simp[hn,this]
theorem p_Contains (l:List ByteArray) (x:ByteArray) (hl:l.length≤4611686018427387904):PCall Tryz.prog gl 113 [namesD l,dS x] (dB (memB x l)):=by
  refine PCall.by_ (md:=[]) Tryz.func113 rfl (by kernel_rfl) (n:=9) Tryz.ntmps113 (by simp) (by decide) rfl ?_
  simp
  refine CallT.p (p_Index l x hl) rfl rfl ?_
  simp
  rw[← idxI_mem]
def nm (l:List ByteArray) (i:Nat):ByteArray:=l.getD i ⟨#[]⟩
theorem nm_at {l:List ByteArray}{i:Nat} (h:i<l.length):l[i]=nm l i:=by
  unfold nm
  rw[List.getD_eq_getElem?_getD,List.getElem?_eq_getElem h,Option.getD_some]
def onceP (l:List ByteArray) (i:Nat):Bool:=nameB (nm l i)&&allTo (fun k=>!decide (nm l k=nm l i)) i
def onceB (l:List ByteArray):Bool:=allTo (onceP l) l.length
theorem nm_size {l:List ByteArray} (hl:NamesOk l) {i:Nat} (h:i<l.length):(nm l i).size≤4611686018427387904:=by
  rw[← nm_at h];exact hl.2 _ (List.getElem_mem h)
set_option maxHeartbeats 1000000 in
theorem p_l1Once (l:List ByteArray) (hl:NamesOk l):PCall Tryz.prog gl 54 [namesD l] (dB (onceB l)):=by
  refine PCall.by_ (md:=[]) Tryz.func54 rfl (by kernel_rfl) (n:=31) Tryz.ntmps54 (by simp) (by decide) rfl ?_
  have hlen:=hl.1
  simp
  refine LoopT.round (fun E S=>∃ i:Nat,i≤l.length∧E 0=some (.d (namesD l))∧E 3=some (.d (dI i))∧(∀ j,j<i→onceP l j=true)) (upTo 3 l.length) ⟨0,by simp⟩ ?_
  rintro E S hk ⟨i,hi,h0,h3,hp⟩
  have hn:S.n=31:=by simpa using hk.n
  have hg:S.gl=gl:=by simpa using hk.gl
  have w:IntKind.i64.wrap ((i:Int)+1)=(i:Int)+1:=wrap64 (by omega) (by omega)
  simp[h0,h3,hn]
  refine BrT.dec (fun h=>?_) (fun h=>?_)
  · have hi2:i<l.length:=by omega
    have bad:onceP l i=false→onceB l=false:=fun h=>allTo_false hi2 h
    simp[h0,h3,hn,hi2,nm_at]
    refine CallT.p (p_l1Name _ (nm_size hl hi2)) (by first | rfl | simp[hg]) rfl ?_
    simp[hn]
    refine BrT.mk (fun hb=>?_) (fun hb=>?_)
    · simp[hn,hb]
      refine LoopT.round (fun E S=>∃ k:Nat,k≤i∧E 0=some (.d (namesD l))∧E 3=some (.d (dI i))∧E 4=some (.d (dI k))∧(∀ j,j<k→(!decide (nm l j=nm l i))=true)) (upTo 4 i) ⟨0,by simp[h0,h3]⟩ ?_
      rintro E2 S2 hk2 ⟨k,hki,g0,g3,g4,gp⟩
      have gn:S2.n=31:=by have:=hk2.n;simpa[hn] using this
      have w2:IntKind.i64.wrap ((k:Int)+1)=(k:Int)+1:=wrap64 (by omega) (by omega)
      simp[g3,g4,gn]
      refine BrT.dec (fun h=>?_) (fun h=>?_)
      · have hk3:k<i:=by omega
        have hk4:k<l.length:=by omega
        simp[g0,g3,g4,gn,hi2,hk4,nm_at]
        refine⟨DrawT.mk (by kernel_rfl),?_⟩
        refine BrT.dec (fun he=>?_) (fun he=>?_)
        · have:=bad (by unfold onceP;rw[allTo_false hk3 (by simp[he])];simp)
          simp[gn,he,this]
        · simp[g0,g3,g4,gn,he,w2]
          refine⟨⟨k+1,by omega,rfl,fun j hj=>?_⟩,upTo_lt g4 (by simp) hk3⟩
          have:=next_all gp (by simp[he]) j hj
          simpa using this
      · have hk3:k=i:=by omega
        subst hk3
        simp[g0,g3,gn,w]
        refine⟨⟨k+1,by omega,rfl,next_all hp (by unfold onceP;rw[hb,allTo_true gp];rfl)⟩,?_⟩
        exact upTo_lt h3 (by simp) hi2
    · have:=bad (by simp[onceP,hb])
      simp[hn,hb,this]
  · have hi3:i=l.length:=by omega
    subst hi3
    simp[hn,onceB,allTo_true hp]
theorem mem_take {l:List ByteArray}{i:Nat} (hi:i<l.length):memB (nm l i) (l.take i) = !allTo (fun k=>!decide (nm l k=nm l i)) i:=by
  cases hb:allTo (fun k=>!decide (nm l k=nm l i)) i with
  | true =>
    cases hm:memB (nm l i) (l.take i) with
    | false=>rfl
    | true =>
      obtain⟨k,hk,he⟩:=List.getElem_of_mem (memB_iff.1 hm)
      have hk2:k<i:=by simp at hk;omega
      have h2:=allTo_iff.1 hb k hk2
      rw[List.getElem_take,nm_at (by omega)] at he
      simp[he] at h2
  | false =>
    cases hm:memB (nm l i) (l.take i) with
    | true=>rfl
    | false =>
      have:allTo (fun k=>!decide (nm l k=nm l i)) i=true:=allTo_true fun k hk=>by
        cases hd:decide (nm l k=nm l i) with
        | false=>rfl
        | true =>
          have he:=of_decide_eq_true hd
          have hmem:nm l i∈l.take i:=by
            rw[← he, ← nm_at (by omega:k<l.length)]
            exact List.mem_take_iff_getElem.2 ⟨k,by omega,rfl⟩
          rw[memB_iff.2 hmem] at hm;cases hm
      rw[this] at hb;cases hb
set_option maxHeartbeats 1000000 in
theorem p_namesOnce (l:List ByteArray) (hl:NamesOk l):PCall Tryz.prog gl 104 [namesD l] (dB (onceB l)):=by
  refine PCall.by_ (md:=[]) Tryz.func104 rfl (by kernel_rfl) (n:=23) Tryz.ntmps104 (by simp) (by decide) rfl ?_
  have hlen:=hl.1
  simp
  refine LoopT.round (fun E S=>∃ i:Nat,i≤l.length∧E 0=some (.d (namesD l))∧E 5=some (.d (namesD l))∧E 6=some (.d (dI l.length))∧E 7=some (.d (dI i))∧(∀ j,j<i→onceP l j=true)) (upTo 7 l.length) ⟨0,by simp⟩ ?_
  rintro E S hk ⟨i,hi,h0,h5,h6,h7,hp⟩
  have hn:S.n=23:=by simpa using hk.n
  have hg:S.gl=gl:=by simpa using hk.gl
  have w:IntKind.i64.wrap ((i:Int)+1)=(i:Int)+1:=wrap64 (by omega) (by omega)
  simp[h6,h7,hn]
  refine BrT.dec (fun h=>?_) (fun h=>?_)
  · have hi2:i<l.length:=by omega
    have bad:onceP l i=false→onceB l=false:=fun h=>allTo_false hi2 h
    simp[h5,h7,hn,hi2,nm_at]
    refine CallT.p (p_isName _ (nm_size hl hi2)) (by first | rfl | simp[hg]) rfl ?_
    simp[hn]
    refine BrT.mk (fun hb=>?_) (fun hb=>?_)
    · simp[h0,hn,hb]
      refine⟨by omega,?_⟩
      have hc:=p_Contains (gl:=gl) (l.take i) (nm l i) (by simp;omega)
      rw[mem_take hi2] at hc
      refine CallT.p hc (by first | rfl | simp[hg]) (by simp;omega) ?_
      simp[hn]
      refine BrT.mk (fun hd=>?_) (fun hd=>?_)
      · simp[h0,h5,h6,h7,hn,hd,w]
        exact⟨⟨i+1,by omega,rfl,next_all hp (by unfold onceP;rw[hb,hd];rfl)⟩,upTo_lt h7 (by simp) hi2⟩
      · have:=bad (by unfold onceP;rw[hd];simp)
        simp[hn,hd,this]
    · have:=bad (by simp[onceP,hb])
      simp[hn,hb,this]
  · have hi3:i=l.length:=by omega
    subst hi3
    simp[hn,onceB,allTo_true hp]
inductive Val where
  | mk (kind num:Int) (text:ByteArray) (list:List Val) (names:List ByteArray)
  deriving Inhabited
mutual
def Val.cells:Val→List D
  | .mk k n t l ns=>[dI k,dI n,dS t, .ps (valsCells l) l.length,namesD ns]
def valsCells:List Val→List D
  | []=>[]
  | v::r=>v.cells++valsCells r
end
abbrev Val.d (v:Val):D:=.agg v.cells
abbrev valsD (l:List Val):D:=.ps (valsCells l) l.length
theorem cells_len (v:Val):v.cells.length=5:=by cases v;rfl
@[simp] theorem take_cellsS (v:Val):(v.cells.map SV.d).take 5=v.cells.map SV.d:=List.take_of_length_le (by rw[List.length_map,cells_len];exact Nat.le_refl _)
theorem valsCells_row:∀ l:List Val,valsCells l=l.flatMap Val.cells
  | []=>by simp[valsCells]
  | v::r=>by rw[valsCells,valsCells_row r,List.flatMap_cons]
theorem valsCells_len (l:List Val):(valsCells l).length=l.length*5:=by rw[valsCells_row,row_len cells_len]
theorem valsCells_at (l:List Val) {i:Nat} (hi:i<l.length):((valsCells l).drop (i*5)).take 5=(l[i]).cells:=by rw[valsCells_row,row_at cells_len l i hi]
inductive WF:Val→Prop
  | mk {k n:Int} {t:ByteArray} {l:List Val} {ns:List ByteArray} (ht:t.size≤4611686018427387904) (hn:NamesOk ns) (hl:l.length≤4611686018427387904) (h:∀ v∈l,WF v):WF (.mk k n t l ns)
def plainB (k n:Int) (t:ByteArray) (ll ln:Nat):Bool :=
  if k=0 then decide (n=0)&&decide (t=⟨#[]⟩)&&decide ((ll:Int)+ln=0)
  else if k=1 then decide (0≤n)&&decide (n≤1)&&decide (t=⟨#[]⟩)&&decide ((ll:Int)+ln=0)
  else if k=2 then decide (-2147483647≤n)&&decide (n≤2147483647)&&decide (t=⟨#[]⟩)&&decide ((ll:Int)+ln=0)
  else if k=3 then decide (n=0)&&decide ((t.size:Int)≤40)&&decide ((ll:Int)+ln=0)
  else if k=4 then decide (n=0)&&decide (t=⟨#[]⟩)&&decide ((ln:Int)=0)&&decide ((ll:Int)≤12)
  else if k=5 then decide (n=0)&&decide (t=⟨#[]⟩)&&decide ((ln:Int)=ll)&&decide ((ll:Int)≤12)
  else if k=6∨k=7 then decide (n=0)&&nameB t&&decide ((ll:Int)+ln=0)
  else false
set_option maxHeartbeats 4000000 in
theorem p_l1Plain (k n:Int) (t:ByteArray) (l:List Val) (ns:List ByteArray) (ht:t.size≤4611686018427387904) (hl:l.length≤4611686018427387904) (hn:ns.length≤4611686018427387903):PCall Tryz.prog gl 139 [(Val.mk k n t l ns).d] (dB (plainB k n t l.length ns.length)):=by
  refine PCall.by_ (md:=[]) Tryz.func139 rfl (by kernel_rfl) (n:=154) Tryz.ntmps139 (by simp) (by decide) rfl ?_
  have w:IntKind.i64.wrap ((l.length:Int)+ns.length)=(l.length:Int)+ns.length:=wrap64 (by omega) (by omega)
  simp[Val.cells]
  repeat' first
    | (refine BrT.dec (fun h=>?_) (fun h=>?_)<;>simp[h,w])
    | (refine CallT.p (p_l1In _ _ _) rfl rfl ?_;simp)
    | (refine CallT.p (p_l1Name _ ht) rfl rfl ?_;simp)
    | (refine BrT.mk (fun h=>?_) (fun h=>?_)<;>simp[h,w])
  all_goals (clear w ht hl hn;simp[plainB, *])
def formB (k n:Int) (t:ByteArray) (ll:Nat) (ns:List ByteArray):Bool:=plainB k n t ll ns.length&&(!decide (k=5) || onceB ns)
def itemIn (k n:Int) (t:ByteArray) (l:List Val) (ns:List ByteArray):D :=
  if k=0 then .ifc 180 (.agg [])
  else if k=1 then .ifc 181 (dB (decide (n=1)))
  else if k=2 then .ifc 182 (dI n)
  else if k=3 then .ifc 183 (dS t)
  else if k=4 then .ifc 184 (valsD l)
  else if k=5 then .ifc 186 (.agg [namesD ns,valsD l])
  else if k=6 then .ifc 146 (dS t)
  else .ifc 147 (dS t)
def itemD (k n:Int) (t:ByteArray) (l:List Val) (ns:List ByteArray):D:=if formB k n t l.length ns=true then itemIn k n t l ns else .v .nilIface
theorem len0 (l:List Val) (ns:List ByteArray):((l.length:Int)+ns.length=0)↔l=[]∧ns=[]:=by
  rw[← List.length_eq_zero_iff, ← List.length_eq_zero_iff]
  omega
set_option maxHeartbeats 8000000 in
theorem p_itemOf (k n:Int) (t:ByteArray) (l:List Val) (ns:List ByteArray) (ht:t.size≤4611686018427387904) (hl:l.length≤4611686018427387904) (hn:NamesOk ns):PCall Tryz.prog gl 120 [(Val.mk k n t l ns).d] (itemD k n t l ns):=by
  refine PCall.by_ (md:=[]) Tryz.func120 rfl (by kernel_rfl) (n:=171) Tryz.ntmps120 (by simp) (by decide) rfl ?_
  simp[Val.cells]
  repeat' first
    | (refine BrT.dec (fun h=>?_) (fun h=>?_)<;>simp[h])
    | (refine CallT.p (p_isName _ ht) rfl rfl ?_;simp)
    | (refine CallT.p (p_namesOnce _ hn) rfl rfl ?_;simp)
    | (refine CallT.p (p_namesOnce [] ⟨by simp,by simp⟩) rfl rfl ?_;simp)
    | (refine BrT.mk (fun h=>?_) (fun h=>?_)<;>simp[h])
  all_goals try (clear ht hl hn;simp[itemD,itemIn,formB,plainB,len0, *];done)
  all_goals try (clear ht hl hn;simp[itemD,itemIn,formB,plainB, *];intros;omega)
mutual
def okB:Val→Int→Bool→Bool
  | .mk k n t l ns,deep,words=>!decide (deep<1)&&plainB k n t l.length ns.length && !(!words&&decide (5<k))&&onceB ns&&oksB l (deep - 1) words
def oksB:List Val→Int→Bool→Bool
  | [],_,_=>true
  | v::r,deep,words=>okB v deep words&&oksB r deep words
end
def vl (l:List Val) (i:Nat):Val:=l.getD i default
theorem oksB_all {d:Int}{w:Bool}:∀ l:List Val,oksB l d w=allTo (fun i=>okB (vl l i) d w) l.length
  | []=>by simp[oksB,allTo]
  | v::r=>by
    rw[oksB,oksB_all r,Bool.eq_iff_iff,Bool.and_eq_true,allTo_iff,allTo_iff]
    constructor
    · rintro ⟨h1,h2⟩ j hj
      cases j with
      | zero=>exact h1
      | succ j=>exact h2 j (by simpa using hj)
    · intro h
      exact⟨h 0 (by simp),fun j hj=>h (j+1) (by simpa using hj)⟩
theorem val_at {l:List Val}{i:Nat} (h:i<l.length):vl l i=l[i]:=by
  unfold vl
  rw[List.getD_eq_getElem?_getD,List.getElem?_eq_getElem h,Option.getD_some]
set_option maxHeartbeats 4000000 in
theorem p_l1Ok (v:Val) (hv:WF v) (deep:Int) (words:Bool) (hd : -4611686018427387904≤deep) (hd2:deep≤4611686018427387904):PCall Tryz.prog gl 80 [v.d,dI deep,dB words] (dB (okB v deep words)):=by
  match v,hv with
  | .mk k n t l ns, .mk ht hn hl hwf =>
    have ih:∀ i (hi:i<l.length) (deep:Int), -4611686018427387904≤deep→deep≤4611686018427387904→PCall Tryz.prog gl 80 [l[i].d,dI deep,dB words] (dB (okB l[i] deep words)):=fun i hi deep a b =>
      have:=List.sizeOf_lt_of_mem (List.getElem_mem hi)
      p_l1Ok l[i] (hwf _ (List.getElem_mem hi)) deep words a b
    refine PCall.by_ (md:=[]) Tryz.func80 rfl (by kernel_rfl) (n:=47) Tryz.ntmps80 (by simp) (by decide) rfl ?_
    have hnl:=hn.1
    simp[Val.cells]
    repeat' first
      | (refine BrT.dec (fun h=>?_) (fun h=>?_)<;>simp[h])
      | (refine CallT.p (p_l1Plain k n t l ns ht hl hnl) rfl rfl ?_;simp)
      | (refine CallT.p (p_l1Once ns hn) rfl rfl ?_;simp)
      | (refine BrT.mk (fun h=>?_) (fun h=>?_)<;>simp[h])
    all_goals try (clear ih hwf hv hn ht hl hnl;simp[okB, *];done)
    all_goals
      have hok:okB (.mk k n t l ns) deep words=oksB l (deep - 1) words:=by clear ih hwf hv hn ht hl hnl;simp[okB, *]
      have hd1:1≤deep:=by omega
      have w1:IntKind.i64.wrap (deep - 1)=deep - 1:=wrap64 (by omega) (by omega)
      refine LoopT.round (fun E S=>∃ i:Nat,i≤l.length∧E 1=some (.d (dI deep))∧E 2=some (.d (dB words))∧E 3=some (.op 0 0)∧E 7=some (.d (dI i))∧S.B 0=some [.d (dI k), .d (dI n), .d (dS t), .d (.ps (valsCells l) l.length), .d (namesD ns)]∧(∀ j,j<i→okB (vl l j) (deep - 1) words=true)) (upTo 7 l.length) ⟨0,by clear ih hwf hv hn ht hl hnl hok;simp[*]⟩ ?_
      rintro E S hk ⟨i,hi,h1,h2,h3,h7,hB,hp⟩
      have gn:S.n=47:=by simpa using hk.n
      have hg:S.gl=gl:=by simpa using hk.gl
      have w:IntKind.i64.wrap ((i:Int)+1)=(i:Int)+1:=wrap64 (by omega) (by omega)
      simp[h3,h7,hB,gn]
      refine BrT.dec (fun h=>?_) (fun h=>?_)
      · have hi2:i<l.length:=by omega
        have hlen:=valsCells_len l
        have hfit:i*5+5≤l.length*5:=by omega
        simp[h1,h2,h3,h7,hB,gn,hi2,hlen,hfit,valsCells_at,w1]
        refine CallT.p (ih i hi2 (deep - 1) (by omega) (by omega)) (by first | rfl | simp[hg]) rfl ?_
        simp[gn]
        refine BrT.mk (fun hb=>?_) (fun hb=>?_)
        · simp[h1,h2,h3,h7,hB,gn,hb,w]
          exact⟨⟨i+1,by omega,rfl,next_all hp (by rw[val_at hi2];exact hb)⟩,upTo_lt h7 (by simp) hi2⟩
        · have:oksB l (deep - 1) words=false:=by rw[oksB_all,allTo_false hi2 (by rw[val_at hi2];exact hb)]
          have fin:=hok.trans this
          clear hok this
          simp[gn,hb]
          first | (simpa[‹words=true›] using fin)|(simpa[‹words=false›] using fin)
      · have hi3:i=l.length:=by omega
        have:oksB l (deep - 1) words=true:=by rw[oksB_all];exact allTo_true (fun j hj=>hp j (by omega))
        have fin:=hok.trans this
        clear hok this
        simp[gn]
        first | (simpa[‹words=true›] using fin)|(simpa[‹words=false›] using fin)
  termination_by SizeOf.sizeOf v
  decreasing_by
  simp_wf
  omega
theorem p_nullWithin:PCall Tryz.prog gl 267 [.agg []] (.ps [] 0):=by
  refine PCall.by_ (md:=[]) Tryz.func267 rfl (by kernel_rfl) (n:=3) Tryz.ntmps267 (by simp) (by decide) rfl ?_
  simp
theorem p_boolWithin (b:Bool):PCall Tryz.prog gl 268 [dB b] (.ps [] 0):=by
  refine PCall.by_ (md:=[]) Tryz.func268 rfl (by kernel_rfl) (n:=3) Tryz.ntmps268 (by simp) (by decide) rfl ?_
  simp
theorem p_numWithin (n:Int):PCall Tryz.prog gl 269 [dI n] (.ps [] 0):=by
  refine PCall.by_ (md:=[]) Tryz.func269 rfl (by kernel_rfl) (n:=3) Tryz.ntmps269 (by simp) (by decide) rfl ?_
  simp
theorem p_textWithin (s:ByteArray):PCall Tryz.prog gl 270 [dS s] (.ps [] 0):=by
  refine PCall.by_ (md:=[]) Tryz.func270 rfl (by kernel_rfl) (n:=3) Tryz.ntmps270 (by simp) (by decide) rfl ?_
  simp
theorem p_listWithin (l:List Val):PCall Tryz.prog gl 271 [valsD l] (valsD l):=by
  refine PCall.by_ (md:=[]) Tryz.func271 rfl (by kernel_rfl) (n:=4) Tryz.ntmps271 (by simp) (by decide) rfl ?_
  simp
theorem p_treeWithin (ns:List ByteArray) (l:List Val):PCall Tryz.prog gl 272 [.agg [namesD ns,valsD l]] (valsD l):=by
  refine PCall.by_ (md:=[]) Tryz.func272 rfl (by kernel_rfl) (n:=5) Tryz.ntmps272 (by simp) (by decide) rfl ?_
  simp
theorem plain_kind {k n:Int}{t:ByteArray}{ll ln:Nat} (h:plainB k n t ll ln=true):k=0∨k=1∨k=2∨k=3∨k=4∨k=5∨k=6∨k=7:=by
  by_cases h0:k=0; · exact .inl h0
  by_cases h1:k=1; · exact .inr (.inl h1)
  by_cases h2:k=2; · exact .inr (.inr (.inl h2))
  by_cases h3:k=3; · exact .inr (.inr (.inr (.inl h3)))
  by_cases h4:k=4; · exact .inr (.inr (.inr (.inr (.inl h4))))
  by_cases h5:k=5; · exact .inr (.inr (.inr (.inr (.inr (.inl h5)))))
  by_cases h6:k=6; · exact .inr (.inr (.inr (.inr (.inr (.inr (.inl h6))))))
  by_cases h7:k=7; · exact .inr (.inr (.inr (.inr (.inr (.inr (.inr h7))))))
  simp[plainB,h0,h1,h2,h3,h4,h5,h6,h7] at h
theorem p_within {k n:Int}{t:ByteArray}{l:List Val}{ns:List ByteArray} (hf:formB k n t l.length ns=true) (hk:¬ 5<k) :
    ∃ T x g, itemD k n t l ns = .ifc T x ∧ T ≠ 146 ∧ T ≠ 147 ∧ methOf Tryz.prog T "loop.example/pergola/impl.within" = some g ∧ PCall Tryz.prog gl g [x] (valsD l) := by
  have hp:plainB k n t l.length ns.length=true:=by simp only[formB,Bool.and_eq_true] at hf;exact hf.1
  unfold itemD
  rw[if_pos hf]
  have nil:∀ (hs:((l.length:Int)+ns.length=0)),valsD l=.ps [] 0:=fun hs=>by
    obtain⟨rfl,_⟩:=(len0 l ns).1 hs
    rfl
  rcases plain_kind hp with rfl | rfl | rfl | rfl | rfl | rfl | rfl | rfl
  · have:=nil (by simp[plainB] at hp;exact_mod_cast hp.2)
    rw[this]
    exact⟨180, .agg [],267,rfl,by decide,by decide,by kernel_rfl,p_nullWithin⟩
  · have:=nil (by simp[plainB] at hp;exact_mod_cast hp.2)
    rw[this]
    exact⟨181,_,268,rfl,by decide,by decide,by kernel_rfl,p_boolWithin _⟩
  · have:=nil (by simp[plainB] at hp;exact_mod_cast hp.2)
    rw[this]
    exact⟨182,_,269,rfl,by decide,by decide,by kernel_rfl,p_numWithin _⟩
  · have:=nil (by simp[plainB] at hp;exact_mod_cast hp.2)
    rw[this]
    exact⟨183,_,270,rfl,by decide,by decide,by kernel_rfl,p_textWithin _⟩
  · exact⟨184,_,271,rfl,by decide,by decide,by kernel_rfl,p_listWithin l⟩
  · exact⟨186,_,272,rfl,by decide,by decide,by kernel_rfl,p_treeWithin ns l⟩
  · omega
  · omega
theorem onceB_nil:onceB []=true:=rfl
theorem plain_names {k n:Int}{t:ByteArray}{l:List Val}{ns:List ByteArray} (h:plainB k n t l.length ns.length=true) (h5:k≠5):ns=[]:=by
  have hs:((l.length:Int)+ns.length=0)→ns=[]:=fun h=>((len0 l ns).1 h).2
  rcases plain_kind h with rfl | rfl | rfl | rfl | rfl | rfl | rfl | rfl
  · exact hs (by simp[plainB] at h;exact_mod_cast h.2)
  · exact hs (by simp[plainB] at h;exact_mod_cast h.2)
  · exact hs (by simp[plainB] at h;exact_mod_cast h.2)
  · exact hs (by simp[plainB] at h;exact_mod_cast h.2)
  · simp[plainB] at h;exact h.1.2
  · exact absurd rfl h5
  · exact hs (by simp[plainB] at h;exact_mod_cast h.2)
  · exact hs (by simp[plainB] at h;exact_mod_cast h.2)
theorem form_eq {k n:Int}{t:ByteArray}{l:List Val}{ns:List ByteArray}:formB k n t l.length ns=(plainB k n t l.length ns.length&&onceB ns):=by
  unfold formB
  cases hp:plainB k n t l.length ns.length with
  | false=>rfl
  | true =>
    by_cases h5:k=5
    · simp[h5]
    · have:=plain_names hp h5
      subst this
      simp[h5,onceB_nil]
theorem ok_form {k n:Int}{t:ByteArray}{l:List Val}{ns:List ByteArray}{deep:Int}{words:Bool} (h:formB k n t l.length ns=false):okB (.mk k n t l ns) deep words=false:=by
  rw[form_eq,Bool.and_eq_false_iff] at h
  rcases h with h | h<;>simp[okB,h]
theorem ok_in {k n:Int}{t:ByteArray}{l:List Val}{ns:List ByteArray}{deep:Int}{words:Bool} (h:formB k n t l.length ns=true) (hd:¬ deep<1) (hk:¬ 5<k):okB (.mk k n t l ns) deep words=oksB l (deep - 1) words:=by
  rw[form_eq,Bool.and_eq_true] at h
  simp[okB,h,hd,hk]
theorem ok_word {k n:Int}{t:ByteArray}{l:List Val}{ns:List ByteArray}{deep:Int}{words:Bool} (h:formB k n t l.length ns=true) (hd:¬ deep<1) (hk:5<k):okB (.mk k n t l ns) deep words=words∧(k=6∨k=7):=by
  rw[form_eq,Bool.and_eq_true] at h
  have hk2:k=6∨k=7:=by
    rcases plain_kind h.1 with rfl | rfl | rfl | rfl | rfl | rfl | rfl | rfl<;>first | omega | simp
  have hl:l=[]:=by
    have hp:=h.1
    rcases hk2 with rfl | rfl
    · exact ((len0 l ns).1 (by simp[plainB] at hp;exact_mod_cast hp.2)).1
    · exact ((len0 l ns).1 (by simp[plainB] at hp;exact_mod_cast hp.2)).1
  subst hl
  refine⟨?_,hk2⟩
  cases words<;>simp[okB,h,hd,hk,oksB]<;>(try exact h.1)
set_option maxHeartbeats 4000000 in
theorem p_fitsIn (v:Val) (hv:WF v) (most:Int) (free:Bool) (hd : -4611686018427387904≤most) (hd2:most≤4611686018427387904):PCall Tryz.prog gl 61 [v.d,dI most,dB free] (dB (okB v most free)):=by
  match v,hv with
  | .mk k n t l ns, .mk ht hn hl hwf =>
    have ih:∀ i (hi:i<l.length) (deep:Int), -4611686018427387904≤deep→deep≤4611686018427387904→PCall Tryz.prog gl 61 [l[i].d,dI deep,dB free] (dB (okB l[i] deep free)):=fun i hi deep a b =>
      have:=List.sizeOf_lt_of_mem (List.getElem_mem hi)
      p_fitsIn l[i] (hwf _ (List.getElem_mem hi)) deep free a b
    refine PCall.by_ (md:=[]) Tryz.func61 rfl (by kernel_rfl) (n:=38) Tryz.ntmps61 (by simp) (by decide) rfl ?_
    simp[Val.cells]
    refine BrT.dec (fun h=>?_) (fun h=>?_)
    · simp[h,okB]
    simp[h]
    have hc:=p_itemOf (gl:=gl) k n t l ns ht hl hn
    by_cases hf:formB k n t l.length ns=true
    case neg =>
      have hi:itemD k n t l ns=.v .nilIface:=if_neg hf
      rw[hi] at hc
      refine CallT.p hc rfl rfl ?_
      simp[ok_form (deep:=most) (words:=free) (by simpa using hf)]
    by_cases hk:5<k
    case pos =>
      obtain⟨h1,h2⟩:=ok_word (words:=free) hf h hk
      rcases h2 with rfl | rfl
      · have hi:itemD 6 n t l ns=.ifc 146 (dS t):=if_pos hf
        rw[hi] at hc
        refine CallT.p hc rfl rfl ?_
        simp[h1]
      · have hi:itemD 7 n t l ns=.ifc 147 (dS t):=if_pos hf
        rw[hi] at hc
        refine CallT.p hc rfl rfl ?_
        simp[h1]
    obtain⟨T,x,g,hi,hT1,hT2,hm,hg⟩:=p_within (gl:=gl) hf hk
    rw[hi] at hc
    refine CallT.p hc rfl rfl ?_
    simp[hT1,hT2]
    refine InvT.p hg (by simp) hm rfl ?_
    simp
    have hok:=ok_in (words:=free) hf h hk
    have w1:IntKind.i64.wrap (most - 1)=most - 1:=wrap64 (by omega) (by omega)
    refine LoopT.round (fun E S=>∃ i:Nat,i≤l.length∧E 1=some (.d (dI most))∧E 2=some (.d (dB free))∧E 25=some (.d (valsD l))∧E 26=some (.d (dI l.length))∧E 27=some (.d (dI i))∧(∀ j,j<i→okB (vl l j) (most - 1) free=true)) (upTo 27 l.length) ⟨0,by simp⟩ ?_
    rintro E S hk ⟨i,hi,h1,h2,h25,h26,h27,hp⟩
    have gn:S.n=38:=by simpa using hk.n
    have hgl:S.gl=gl:=by simpa using hk.gl
    have w:IntKind.i64.wrap ((i:Int)+1)=(i:Int)+1:=wrap64 (by omega) (by omega)
    simp[h26,h27,gn]
    refine BrT.dec (fun h=>?_) (fun h=>?_)
    · have hi2:i<l.length:=by omega
      have hlen:=valsCells_len l
      have hfit:i*5+5≤l.length*5:=by omega
      simp[h1,h2,h25,h27,gn,hi2,hlen,hfit,valsCells_at,w1,cells_len]
      refine CallT.p (ih i hi2 (most - 1) (by omega) (by omega)) (by first | rfl | simp[hgl]) (by simp) ?_
      simp[gn]
      refine BrT.mk (fun hb=>?_) (fun hb=>?_)
      · simp[h1,h2,h25,h26,h27,gn,hb,w]
        exact⟨⟨i+1,by omega,rfl,next_all hp (by rw[val_at hi2];exact hb)⟩,upTo_lt h27 (by simp) hi2⟩
      · have:oksB l (most - 1) free=false:=by rw[oksB_all,allTo_false hi2 (by rw[val_at hi2];exact hb)]
        simp[gn,hb,hok,this]
    · have hi3:i=l.length:=by omega
      have:oksB l (most - 1) free=true:=by rw[oksB_all];exact allTo_true (fun j hj=>hp j (by omega))
      simp[gn,hok,this]
  termination_by SizeOf.sizeOf v
  decreasing_by
  simp_wf
  omega
inductive Small:Val→Prop
  | mk {k n:Int} {t:ByteArray} {l:List Val} {ns:List ByteArray} (ht:t.size≤1048576) (hn:ns.length≤1048576) (hns:∀ s∈ns,s.size≤1048576) (hl:l.length≤1048576) (h:∀ v∈l,Small v):Small (.mk k n t l ns)
theorem small_wf {v:Val} (h:Small v):WF v:=by
  match v,h with
  | .mk k n t l ns, .mk ht hn hns hl h =>
    exact .mk (by omega) ⟨by omega,fun s hs=>by have:=hns s hs;omega⟩ (by omega) fun x hx=>small_wf (h x hx)
  termination_by SizeOf.sizeOf v
  decreasing_by
    have:=List.sizeOf_lt_of_mem hx
    simp;omega
inductive Sk where
  | d (v:Value)
  | nil
  | row (z:Option Nat) (n:Nat) (cs:List Sk)
inductive Ld where
  | d (v:Value)
  | nil
  | row (z:Option Nat) (b n:Nat) (cs:List Ld)
def rowV (z:Option Nat) (b n:Nat):SV:=match z with | none=>.os b 0 n | some sz=>.sk b n sz
@[simp] theorem rowV_none (b n:Nat):rowV none b n=.os b 0 n:=(rfl)
@[simp] theorem rowV_some (b n sz:Nat):rowV (some sz) b n=.sk b n sz:=(rfl)
def Ld.sv:Ld→SV
  | .d v=>.d (.v v)
  | .nil=>.fl [] 0
  | .row z b n _=>rowV z b n
@[simp] theorem Ld.sv_d (v:Value):(Ld.d v).sv=.d (.v v):=(rfl)
@[simp] theorem Ld.sv_nil:Ld.nil.sv=.fl [] 0:=(rfl)
@[simp] theorem Ld.sv_row (z:Option Nat) (b n:Nat) (cs:List Ld):(Ld.row z b n cs).sv=rowV z b n:=(rfl)
def svs (cs:List Ld):List SV:=cs.map Ld.sv
@[simp] theorem svs_len (cs:List Ld):(svs cs).length=cs.length:=List.length_map ..
@[simp] theorem svs_nil:svs []=[]:=(rfl)
@[simp] theorem svs_cons (x:Ld) (cs:List Ld):svs (x::cs)=x.sv::svs cs:=(rfl)
@[simp] theorem svs_app (a b:List Ld):svs (a++b)=svs a++svs b:=List.map_append ..
mutual
def Ld.sh:Ld→Sk
  | .d v=>.d v
  | .nil=>.nil
  | .row z _ n cs=>.row z n (shs cs)
def shs:List Ld→List Sk
  | []=>[]
  | x::r=>x.sh::shs r
end
mutual
def Ld.vars:Ld→List (Nat×List SV)
  | .d _=>[]
  | .nil=>[]
  | .row _ b _ cs=>(b,svs cs)::varsL cs
def varsL:List Ld→List (Nat×List SV)
  | []=>[]
  | x::r=>x.vars++varsL r
end
mutual
def Sk.cnt:Sk→Nat
  | .d _=>0
  | .nil=>0
  | .row _ _ cs=>1+cntL cs
def cntL:List Sk→Nat
  | []=>0
  | x::r=>x.cnt+cntL r
end
mutual
def Sk.can (k:Nat):Sk→Ld
  | .d v=>.d v
  | .nil=>.nil
  | .row z n cs=>.row z k n (canL (k+1) cs)
def canL (k:Nat):List Sk→List Ld
  | []=>[]
  | x::r=>x.can k::canL (k+x.cnt) r
end
mutual
def Sk.data:Sk→D
  | .d v=>.v v
  | .nil=>.ps [] 0
  | .row _ n cs=>.ps (dataL cs) n
def dataL:List Sk→List D
  | []=>[]
  | x::r=>x.data::dataL r
end
@[simp] theorem shs_len:∀ cs:List Ld,(shs cs).length=cs.length
  | []=>rfl
  | x::r=>by simp[shs,shs_len r]
theorem shs_app:∀ a b:List Ld,shs (a++b)=shs a++shs b
  | [],b=>rfl
  | x::r,b=>by simp[shs,shs_app r b]
theorem varsL_app:∀ a b:List Ld,varsL (a++b)=varsL a++varsL b
  | [],b=>rfl
  | x::r,b=>by simp[varsL,varsL_app r b]
theorem dataL_app:∀ a b:List Sk,dataL (a++b)=dataL a++dataL b
  | [],b=>rfl
  | x::r,b=>by simp[dataL,dataL_app r b]
mutual
theorem can_sh (k:Nat):∀ x:Sk,(x.can k).sh=x
  | .d v=>by simp[Sk.can,Ld.sh]
  | .nil=>by simp[Sk.can,Ld.sh]
  | .row z n cs=>by simp[Sk.can,Ld.sh,canL_shs (k+1) cs]
theorem canL_shs (k:Nat):∀ cs:List Sk,shs (canL k cs)=cs
  | []=>by simp[canL,shs]
  | x::r=>by simp[canL,shs,can_sh k x,canL_shs (k+x.cnt) r]
end
@[simp] theorem canL_len (k:Nat) (cs:List Sk):(canL k cs).length=cs.length:=by rw[← shs_len,canL_shs]
theorem can_sv (k m:Nat) (x:Sk):(x.can k).sv.shift m=(x.can (m+k)).sv:=by
  cases x with
  | d v=>simp[Sk.can]
  | nil=>simp[Sk.can]
  | row z n cs=>cases z<;>simp[Sk.can,SV.shift]
theorem canL_svs (m:Nat):∀ (k:Nat) (cs:List Sk),(svs (canL k cs)).map (SV.shift m)=svs (canL (m+k) cs)
  | k,[]=>by simp[canL]
  | k,x::r=>by
    simp[canL,can_sv,canL_svs m (k+x.cnt) r,Nat.add_assoc]
abbrev shV (m:Nat) (p:Nat×List SV):Nat×List SV:=(m+p.1,p.2.map (SV.shift m))
mutual
theorem can_vars (m:Nat):∀ (k:Nat) (x:Sk),(x.can k).vars.map (shV m)=(x.can (m+k)).vars
  | k, .d v=>by simp[Sk.can,Ld.vars]
  | k, .nil=>by simp[Sk.can,Ld.vars]
  | k, .row z n cs=>by
    have h1:=canL_svs m (k+1) cs
    have h2:=canL_vars m (k+1) cs
    simp only[Sk.can,Ld.vars,List.map_cons,shV,h1,h2,Nat.add_assoc]
theorem canL_vars (m:Nat):∀ (k:Nat) (cs:List Sk),(varsL (canL k cs)).map (shV m)=varsL (canL (m+k) cs)
  | k,[]=>by simp[canL,varsL]
  | k,x::r=>by
    simp only[canL,varsL,List.map_append,can_vars m k x,canL_vars m (k+x.cnt) r,Nat.add_assoc]
end
mutual
theorem can_ids:∀ (k:Nat) (x:Sk),(x.can k).vars.map (·.1)=(List.range x.cnt).map (k + ·)
  | k, .d v=>by simp[Sk.can,Ld.vars,Sk.cnt]
  | k, .nil=>by simp[Sk.can,Ld.vars,Sk.cnt]
  | k, .row z n cs=>by
    simp only[Sk.can,Ld.vars,List.map_cons,Sk.cnt,canL_ids (k+1) cs]
    rw[Nat.add_comm 1,List.range_succ_eq_map]
    simp only[List.map_cons,List.map_map,Nat.add_zero,List.cons.injEq,true_and]
    refine List.map_congr_left fun i _=>?_
    simp only[Function.comp_apply];omega
theorem canL_ids:∀ (k:Nat) (cs:List Sk),(varsL (canL k cs)).map (·.1)=(List.range (cntL cs)).map (k + ·)
  | k,[]=>by simp[canL,varsL,cntL]
  | k,x::r=>by
    simp only[canL,varsL,List.map_append,can_ids k x,canL_ids (k+x.cnt) r,cntL]
    rw[List.range_add,List.map_append,List.map_map]
    congr 1
    refine List.map_congr_left fun i _=>?_
    simp only[Function.comp_apply];omega
end
theorem canL_nodup (k:Nat) (cs:List Sk):((varsL (canL k cs)).map (·.1)).Nodup:=by
  rw[canL_ids]
  refine List.Pairwise.map _ (R:=(·≠·)) (fun a b h=>by omega) List.nodup_range
theorem canL_rng {k:Nat}{cs:List Sk}{p:Nat×List SV} (h:p∈varsL (canL k cs)):k≤p.1∧p.1<k+cntL cs:=by
  have:p.1∈(varsL (canL k cs)).map (·.1):=List.mem_map_of_mem h
  rw[canL_ids] at this
  obtain⟨i,h1,h2⟩:=List.mem_map.1 this
  have:=List.mem_range.1 h1
  omega
theorem lookN_of {V:List (Nat×List SV)} (hd:(V.map (·.1)).Nodup) {p:Nat×List SV} (h:p∈V):lookN V p.1=some p.2:=by
  induction V with
  | nil=>simp at h
  | cons q V ih =>
    simp only[List.map_cons,List.nodup_cons] at hd
    have e:lookN (q::V) p.1=if p.1=q.1 then some q.2 else lookN V p.1:=rfl
    rw[e]
    rcases List.mem_cons.1 h with h1 | h1
    · subst h1;exact if_pos rfl
    · rw[if_neg fun e=>hd.1 (List.mem_map.2 ⟨p,h1,e⟩)]
      exact ih hd.2 h1
structure At (S:St) (lo hi:Nat) (cs:List Ld):Prop where
  has:∀ p∈varsL cs,S.B p.1=some p.2
  nodup:((varsL cs).map (·.1)).Nodup
  rng:∀ p∈varsL cs,lo≤p.1∧p.1<hi
theorem At.nil {S:St}{lo hi:Nat}:At S lo hi []:=⟨by simp[varsL],by simp[varsL],by simp[varsL]⟩
theorem At.app {S:St}{lo mid hi:Nat}{a b:List Ld} (ha:At S lo mid a) (hb:At S mid hi b) (h1:lo≤mid) (h2:mid≤hi):At S lo hi (a++b):=by
  refine⟨fun p hp=>?_,?_,fun p hp=>?_⟩
  · rw[varsL_app] at hp
    rcases List.mem_append.1 hp with hp | hp
    · exact ha.has p hp
    · exact hb.has p hp
  · rw[varsL_app,List.map_append]
    refine List.nodup_append.2 ⟨ha.nodup,hb.nodup,fun x hx y hy e=>?_⟩
    obtain⟨p,hp,rfl⟩:=List.mem_map.1 hx
    obtain⟨q,hq,rfl⟩:=List.mem_map.1 hy
    have:=ha.rng p hp
    have:=hb.rng q hq
    omega
  · rw[varsL_app] at hp
    rcases List.mem_append.1 hp with hp | hp
    · have:=ha.rng p hp;omega
    · have:=hb.rng p hp;omega
theorem At.le {S:St}{lo hi lo' hi':Nat}{a:List Ld} (ha:At S lo hi a) (h1:lo'≤lo) (h2:hi≤hi'):At S lo' hi' a:=⟨ha.has,ha.nodup,fun p hp=>by have:=ha.rng p hp;omega⟩
theorem At.keep {S S':St}{lo hi:Nat}{a:List Ld} (ha:At S lo hi a) (h:∀ b,lo≤b→b<hi→S'.B b=S.B b):At S' lo hi a :=
  ⟨fun p hp=>by have:=ha.rng p hp;rw[h _ this.1 this.2];exact ha.has p hp,ha.nodup,ha.rng⟩
theorem At.row {S:St}{lo hi b n:Nat}{z:Option Nat}{cs:List Ld} (hb:S.B b=some (svs cs)) (hlo:lo≤b) (hhi:b<hi) (hc:At S lo hi cs) (hn:∀ p∈varsL cs,p.1≠b):At S lo hi [.row z b n cs]:=by
  refine⟨fun p hp=>?_,?_,fun p hp=>?_⟩
  · simp only[varsL,Ld.vars,List.append_nil,List.mem_cons] at hp
    rcases hp with rfl | hp
    · exact hb
    · exact hc.has p hp
  · simp only[varsL,Ld.vars,List.append_nil,List.map_cons,List.nodup_cons]
    refine⟨fun h=>?_,hc.nodup⟩
    obtain⟨p,hp,e⟩:=List.mem_map.1 h
    exact hn p hp e
  · simp only[varsL,Ld.vars,List.append_nil,List.mem_cons] at hp
    rcases hp with rfl | hp
    · exact⟨hlo,hhi⟩
    · exact hc.rng p hp
theorem At.cons_d {S:St}{lo hi:Nat}{v:Value}{cs:List Ld} (h:At S lo hi cs):At S lo hi (.d v::cs):=⟨by simpa[varsL,Ld.vars] using h.has,by simpa[varsL,Ld.vars] using h.nodup,by simpa[varsL,Ld.vars] using h.rng⟩
theorem At.cons_nil {S:St}{lo hi:Nat}{cs:List Ld} (h:At S lo hi cs):At S lo hi (.nil::cs):=⟨by simpa[varsL,Ld.vars] using h.has,by simpa[varsL,Ld.vars] using h.nodup,by simpa[varsL,Ld.vars] using h.rng⟩
mutual
def Sk.dep:Sk→Nat
  | .d _=>0
  | .nil=>0
  | .row _ _ cs=>depL cs+1
def depL:List Sk→Nat
  | []=>0
  | x::r=>max x.dep (depL r)
end
mutual
theorem frz_ld {B:Nat→Option (List SV)}:∀ (x:Ld) (k:Nat),(∀ p∈x.vars,B p.1=some p.2)→x.sh.dep<k→frz B k x.sv=some x.sh.data∧frzv B k x.sv=some x.sh.data
  | .d v,k+1,_,_=>by simp[frz,frzv,Ld.sh,Sk.data]
  | .nil,k+1,_,_=>by simp[frz,frzv,Ld.sh,Sk.data]
  | .row z b n cs,k+1,h,hk=>by
    simp only[Ld.sh,Sk.dep] at hk
    simp only[Ld.vars,List.forall_mem_cons] at h
    obtain⟨h1,h2⟩:=frz_lds cs k h.2 (by omega)
    cases z<;>simp[frz,frzv,Ld.sh,Sk.data,h.1,h1,h2]
theorem frz_lds {B:Nat→Option (List SV)}:∀ (cs:List Ld) (k:Nat),(∀ p∈varsL cs,B p.1=some p.2)→depL (shs cs)<k→mapO (frz B k) (svs cs)=some (dataL (shs cs))∧mapO (frzv B k) (svs cs)=some (dataL (shs cs))
  | [],k,_,_=>⟨rfl,rfl⟩
  | x::r,k,h,hk=>by
    simp only[shs,depL] at hk
    simp only[varsL,List.mem_append] at h
    obtain⟨h1,h2⟩:=frz_ld x k (fun p hp=>h p (.inl hp)) (by omega)
    obtain⟨h3,h4⟩:=frz_lds r k (fun p hp=>h p (.inr hp)) (by omega)
    simp[shs,dataL,h1,h2,h3,h4]
end
@[simp] theorem mapO_frzd (B:Nat→Option (List SV)) (k:Nat) (cs:List D):mapO (frz B (k+1)) (cs.map SV.d)=some cs:=by
  induction cs with
  | nil=>rfl
  | cons x r ih=>simp only[List.map_cons,mapO,ih];rfl
mutual
def Ld.prs (k:Nat):Ld→List (Nat×Nat×Bool)
  | .d _=>[]
  | .nil=>[]
  | .row _ b _ cs=>(k,b,false)::prsL (k+1) cs
def prsL (k:Nat):List Ld→List (Nat×Nat×Bool)
  | []=>[]
  | x::r=>x.prs k++prsL (k+x.sh.cnt) r
end
theorem like_ld {T:Nat→Option (Nat×Nat)}{M:List (Nat×Nat×Bool)} (x:Ld) (k:Nat) (h:∀ p∈x.prs k,p∈M):Like T M x.sv (x.sh.can k).sv:=by
  cases x with
  | d v=>simp only[Ld.sh,Sk.can,Ld.sv_d];exact .d v
  | nil=>simp only[Ld.sh,Sk.can,Ld.sv_nil];exact .fl
  | row z b n cs =>
    have hm:(k,b,false)∈M:=h _ (by simp[Ld.prs])
    cases z with
    | none=>simp only[Ld.sh,Sk.can,Ld.sv_row,rowV_none];exact .os hm
    | some sz=>simp only[Ld.sh,Sk.can,Ld.sv_row,rowV_some];exact .sk hm
theorem like_lds {T:Nat→Option (Nat×Nat)}{M:List (Nat×Nat×Bool)}:∀ (cs:List Ld) (k:Nat),(∀ p∈prsL k cs,p∈M)→∀ j (h:j<(svs cs).length) (h':j<(svs (canL k (shs cs))).length),Like T M (svs cs)[j] (svs (canL k (shs cs)))[j]
  | [],k,_,j,h,_=>by simp at h
  | x::r,k,hp,0,h,h'=>by
    simp only[prsL,List.mem_append] at hp
    simp only[shs,canL,svs_cons,List.getElem_cons_zero]
    exact like_ld x k fun p h=>hp p (.inl h)
  | x::r,k,hp,j+1,h,h'=>by
    simp only[prsL,List.mem_append] at hp
    have:=like_lds (T:=T) (M:=M) r (k+x.sh.cnt) (fun p h=>hp p (.inr h)) j (by simpa using h) (by simpa[shs] using h')
    simpa[shs,canL] using this
mutual
theorem prs_vars {T:Nat→Option (Nat×Nat)}{M:List (Nat×Nat×Bool)}:∀ (x:Ld) (k:Nat),(∀ p∈x.prs k,p∈M)→∀ q∈(x.sh.can k).vars,∃ b c0,(q.1,b,false)∈M∧(b,c0)∈x.vars∧q.2.length=c0.length∧∀ j (h:j<c0.length) (h':j<q.2.length),Like T M c0[j] q.2[j]
  | .d v,k,_,q,hq=>by simp[Ld.sh,Sk.can,Ld.vars] at hq
  | .nil,k,_,q,hq=>by simp[Ld.sh,Sk.can,Ld.vars] at hq
  | .row z b n cs,k,hp,q,hq=>by
    simp only[Ld.sh,Sk.can,Ld.vars,List.mem_cons] at hq
    simp only[Ld.prs,List.mem_cons] at hp
    rcases hq with rfl | hq
    · exact⟨b,svs cs,hp _ (.inl rfl),by simp[Ld.vars],by simp,like_lds cs (k+1) fun p h=>hp p (.inr h)⟩
    · obtain⟨b',c0,h1,h2,h3,h4⟩:=prsL_vars cs (k+1) (fun p h=>hp p (.inr h)) q hq
      exact⟨b',c0,h1,by simp[Ld.vars,h2],h3,h4⟩
theorem prsL_vars {T:Nat→Option (Nat×Nat)}{M:List (Nat×Nat×Bool)}:∀ (cs:List Ld) (k:Nat),(∀ p∈prsL k cs,p∈M)→∀ q∈varsL (canL k (shs cs)),∃ b c0,(q.1,b,false)∈M∧(b,c0)∈varsL cs∧q.2.length=c0.length∧∀ j (h:j<c0.length) (h':j<q.2.length),Like T M c0[j] q.2[j]
  | [],k,_,q,hq=>by simp[shs,canL,varsL] at hq
  | x::r,k,hp,q,hq=>by
    simp only[prsL,List.mem_append] at hp
    simp only[shs,canL,varsL,List.mem_append] at hq
    rcases hq with hq | hq
    · obtain⟨b',c0,h1,h2,h3,h4⟩:=prs_vars x k (fun p h=>hp p (.inl h)) q hq
      exact⟨b',c0,h1,by simp[varsL,h2],h3,h4⟩
    · obtain⟨b',c0,h1,h2,h3,h4⟩:=prsL_vars r (k+x.sh.cnt) (fun p h=>hp p (.inr h)) q hq
      exact⟨b',c0,h1,by simp[varsL,h2],h3,h4⟩
end
mutual
theorem prs_new:∀ (x:Ld) (k:Nat),(x.prs k).map (·.1)=(List.range x.sh.cnt).map (k + ·)
  | .d v,k=>by simp[Ld.prs,Ld.sh,Sk.cnt]
  | .nil,k=>by simp[Ld.prs,Ld.sh,Sk.cnt]
  | .row z b n cs,k=>by
    simp only[Ld.prs,Ld.sh,List.map_cons,Sk.cnt,prsL_new cs (k+1)]
    rw[Nat.add_comm 1,List.range_succ_eq_map]
    simp only[List.map_cons,List.map_map,Nat.add_zero,List.cons.injEq,true_and]
    refine List.map_congr_left fun i _=>?_
    simp only[Function.comp_apply];omega
theorem prsL_new:∀ (cs:List Ld) (k:Nat),(prsL k cs).map (·.1)=(List.range (cntL (shs cs))).map (k + ·)
  | [],k=>by simp[prsL,shs,cntL]
  | x::r,k=>by
    simp only[prsL,shs,List.map_append,prs_new x k,prsL_new r (k+x.sh.cnt),cntL]
    rw[List.range_add,List.map_append,List.map_map]
    congr 1
    refine List.map_congr_left fun i _=>?_
    simp only[Function.comp_apply];omega
end
mutual
theorem prs_old:∀ (x:Ld) (k:Nat),(x.prs k).map (·.2)=x.vars.map fun p=>(p.1,false)
  | .d v,k=>by simp[Ld.prs,Ld.vars]
  | .nil,k=>by simp[Ld.prs,Ld.vars]
  | .row z b n cs,k=>by simp[Ld.prs,Ld.vars,prsL_old cs (k+1)]
theorem prsL_old:∀ (cs:List Ld) (k:Nat),(prsL k cs).map (·.2)=(varsL cs).map fun p=>(p.1,false)
  | [],k=>by simp[prsL,varsL]
  | x::r,k=>by simp[prsL,varsL,prs_old x k,prsL_old r (k+x.sh.cnt)]
end
abbrev newL (cs:List Sk):Nat→Option (List SV):=lookN (varsL (canL 0 cs))
theorem fend_ld {S:St}{lo hi:Nat}{cs:List Ld}{s r:SV} (h:At S lo hi cs) (hl:Like S.T (prsL 0 cs) s r):FEnd S s r (prsL 0 cs) (cntL (shs cs)) (newL (shs cs)):=by
  refine⟨hl,⟨?_,?_,fun p hp=>?_⟩,fun k c hk=>?_⟩
  · rw[prsL_new]
    exact List.Pairwise.map _ (R:=(·≠·)) (fun a b h=>by omega) List.nodup_range
  · rw[prsL_old]
    have:=h.nodup
    rw[show (fun p:Nat×List SV=>(p.1,false))=(fun i:Nat=>(i,false))∘(fun p=>p.1) from rfl, ← List.map_map]
    exact List.Pairwise.map _ (R:=(·≠·)) (fun a b h e=>h (Prod.mk.inj e).1) this
  · have:p.1∈(prsL 0 cs).map (·.1):=List.mem_map_of_mem hp
    rw[prsL_new] at this
    obtain⟨i,h1,h2⟩:=List.mem_map.1 this
    have:=List.mem_range.1 h1
    omega
  · have hm:=lookN_mem hk
    obtain⟨b,c0,h1,h2,h3,h4⟩:=prsL_vars (T:=S.T) (M:=prsL 0 cs) cs 0 (fun p h=>h) (k,c) hm
    exact .inl ⟨b,c0,[],h1,by rw[List.append_nil];exact h.has _ h2,fun _=>rfl,h3,h4⟩
theorem fend_1 {S:St}{lo hi:Nat}{x:Ld} (h:At S lo hi [x]):FEnd S x.sv (x.sh.can 0).sv (prsL 0 [x]) (cntL [x.sh]) (newL [x.sh]):=by
  have:=fend_ld h (s:=x.sv) (r:=(x.sh.can 0).sv) (like_ld x 0 fun p hp=>by simp[prsL,hp])
  simpa[shs] using this
theorem _root_.Go.Sh.CallT.f {P:Program}{S:St}{lo:Lo}{g:FuncId}{ss:List SV}{K:Bool→SV→St→Prop}{ds:List D}{r:SV}{k n:Nat}{B:Nat→Option (List SV)}{gl:Nat→Option D} (h:FCall P gl g ds r k B) (hg:S.gl=gl) (hl:lo.loud=true) (hd:mapO (frz S.B n) ss=some ds)
    (kk:K true (r.shift S.nx) (addS S k B)):CallT lo P g ss S K:=.l (.ofF (by rw[hg];exact h) hd) hl kk
theorem _root_.Go.Sh.FCall.own {P:Program}{S:St}{g:FuncId}{ss:List SV}{ds:List D}{r:SV}{k n base top:Nat}{B:Nat→Option (List SV)}{gl:Nat→Option D} (h:FCall P gl g ds r k B) (hg:S.gl=gl) (hx:top≤S.nx)
    (hd:∀ B':Nat→Option (List SV),(∀ b,b<base→B' b=S.B b)→mapO (frz B' n) ss=some ds):OwnK P g ss S base top (r.shift S.nx) (fun B0 x=>if x<S.nx then B0 x else if x<S.nx+k then (B (x - S.nx)).map (·.map (SV.shift S.nx)) else none) (S.nx+k):=by
  refine⟨fun S1 k1 k2 k3 k4 k5 k6=>?_,fun B0 q cs hq=>?_,fun B0 b hb=>if_pos (by omega),fun B0 C b hb=>?_⟩
  · have:=LCall.ofF (S:=S1) (by rw[k3,hg];exact h) (hd S1.B k6)
    rw[← k2]
    exact this
  · funext x
    simp only[upd]
    by_cases e:x=q
    · rw[if_pos e,if_pos (by omega)];simp[e]
    · rw[if_neg e];simp[e]
  · simp only[hb]
theorem _root_.Go.Sh.CallT.o {P:Program}{A:Ar}{base i:Nat}{Eh:Eh}{S:St}{g:FuncId}{ss:List SV}{K:Bool→SV→St→Prop}{ds:List D}{r:SV}{k n:Nat}{B:Nat→Option (List SV)}{gl:Nat→Option D} (l:Go.Sh.Old) (h:FCall P gl g ds r k B) (hg:S.gl=gl)
    (hf:freeAt A.a i=true) (hl:oldOf A.a i=l) (ho:OldT l base Eh.e) (hx:base+A.a.size≤S.nx) (hd:∀ B':Nat→Option (List SV),(∀ b,b<base→B' b=S.B b)→mapO (frz B' n) ss=some ds) (kk:K true (r.shift S.nx) (addS S k B)):CallT (@LoudT true A base i Eh) P g ss S K :=
  .own l hf hl ho (h.own hg hx hd) kk
theorem At.old {S:St}{lo hi K:Nat}{B:Nat→Option (List SV)}{cs:List Ld} (h:At S lo hi cs) (hh:hi≤S.nx):At (addS S K B) lo hi cs :=
  h.keep fun b _ h2=>by rw[addS_B,if_pos (by omega)]
theorem At.added (S:St) (cs:List Sk):At (addS S (cntL cs) (newL cs)) S.nx (S.nx+cntL cs) (canL S.nx cs):=by
  refine⟨fun p hp=>?_,canL_nodup _ _,fun p hp=>canL_rng hp⟩
  have hr:=canL_rng hp
  have e:=canL_vars S.nx 0 cs
  rw[Nat.add_zero] at e
  rw[← e] at hp
  obtain⟨q,hq,rfl⟩:=List.mem_map.1 hp
  rw[addS_B,if_neg (by simp),if_pos (by simp only[] at hr ⊢;omega)]
  simp only[Nat.add_sub_cancel_left,newL]
  rw[lookN_of (canL_nodup 0 cs) hq]
  rfl
theorem At.new {S':St}{q:Nat}{cs:List Sk} (h:∀ b,q≤b→b<q+cntL cs→S'.B b=(newL cs (b - q)).map (·.map (SV.shift q))):At S' q (q+cntL cs) (canL q cs):=by
  let S0:St:={ B:=fun _=>none,T:=fun _=>none,n:=0,md:=[],gl:=fun _=>none,nx:=q }
  exact (At.added S0 cs).keep fun b h1 h2=>by
    have h3:q≤b:=h1
    rw[h b h1 h2,addS_B,if_neg (show ¬ b<q by omega),if_pos (by exact h2)]
theorem fin_1 {S:St}{lo hi:Nat}{x:Ld}{sk:Sk}{s:SV} (h:At S lo hi [x]) (e:x.sh=sk) (es:s=x.sv):∃ M,FEnd S s (sk.can 0).sv M (cntL [sk]) (newL [sk]):=by
  subst e;subst es;exact⟨_,fend_1 h⟩
def AccD (sz:Nat) (S:St) (X:SV) (cs:List D) (n:Nat):Prop:=(n=0∧cs=[]∧X=.fl [] 0)∨(0<n∧∃ i,i<S.nx∧X=.tp i 0 cs n∧S.T i=some (n,sz))
theorem AccD.nil {sz:Nat}{S:St}:AccD sz S (.fl [] 0) [] 0:=.inl ⟨rfl,rfl,rfl⟩
theorem AccD.mono {sz:Nat}{S S':St}{X:SV}{cs:List D}{n:Nat} (h:AccD sz S X cs n) (hn:S.nx≤S'.nx) (hT:∀ i,i<S.nx→S'.T i=S.T i):AccD sz S' X cs n :=
  h.imp id fun ⟨a,i,h1,h2,h3⟩=>⟨a,i,by omega,h2,(hT i h1).trans h3⟩
theorem AccD.other {sz sz' m q:Nat}{S S':St}{X:SV}{cs:List D}{n:Nat} (h:AccD sz S X cs n) (hq:S.T q=some (m,sz')) (hne:sz'≠sz) (hn:S.nx≤S'.nx) (hT:∀ i,i<S.nx→i≠q→S'.T i=S.T i):AccD sz S' X cs n :=
  h.imp id fun ⟨a,i,h1,h2,h3⟩=>⟨a,i,by omega,h2,(hT i h1 (fun e=>by rw[e,hq] at h3;simp at h3;exact hne h3.2)).trans h3⟩
theorem AccD.frz {sz:Nat}{S:St}{X:SV}{cs:List D}{n k:Nat}{B:Nat→Option (List SV)} (h:AccD sz S X cs n):Go.Sh.frz B (k+1) X=some (.ps cs n):=by
  rcases h with ⟨rfl,rfl,rfl⟩ | ⟨_,i,_,rfl,_⟩<;>rfl
theorem AccD.one {sz:Nat}{S:St}{X:SV}{cs:List D}{n:Nat} (h:AccD sz S X cs n):X.one=true∧X.cells=[X]∧X.cell=true:=by
  rcases h with ⟨rfl,rfl,rfl⟩ | ⟨_,i,_,rfl,_⟩<;>exact⟨rfl,rfl,rfl⟩
def skR (e:Bool) (n:Nat) (cs:List Sk):Sk:=if n=0∧e=false then .nil else .row none n cs
theorem skR_pos {e:Bool}{n:Nat}{cs:List Sk} (h:n≠0):skR e n cs=.row none n cs:=by simp[skR,h]
def skS (e:Bool) (l:List ByteArray):Sk:=skR e l.length (l.map fun s=>.d (.string s))
mutual
def Val.sk (e:Bool):Val→List Sk
  | .mk k n t l ns=>[.d (.int .i64 k), .d (.int .i64 n), .d (.string t),skR e l.length (valsSk e l),skS e ns]
def valsSk (e:Bool):List Val→List Sk
  | []=>[]
  | v::r=>v.sk e++valsSk e r
end
theorem skR_data {e:Bool}{n:Nat}{cs:List Sk} (h:n=0→cs=[]):(skR e n cs).data=.ps (dataL cs) n:=by
  unfold skR
  split
  · rename_i h1;obtain⟨rfl,_⟩:=h1;rw[h rfl];rfl
  · rfl
theorem skS_data (e:Bool) (l:List ByteArray):(skS e l).data=namesD l:=by
  unfold skS
  rw[skR_data (fun h=>by rw[List.eq_nil_of_length_eq_zero h];rfl)]
  congr 1
  induction l with
  | nil=>rfl
  | cons s r ih=>simp[dataL,Sk.data,ih]
abbrev ldT (l:List ByteArray):List Ld:=l.map fun s=>.d (.string s)
@[simp] theorem ldT_vars (l:List ByteArray):varsL (ldT l)=[]:=by
  induction l with
  | nil=>rfl
  | cons s r ih=>simpa[varsL,Ld.vars] using ih
theorem ldT_svs (l:List ByteArray):svs (ldT l)=(l.map dS).map .d:=by
  rw[svs,ldT,List.map_map,List.map_map];rfl
@[simp] theorem can_sv0 (m:Nat) (x:Sk):(x.can 0).sv.shift m=(x.can m).sv:=by rw[can_sv,Nat.add_zero]
theorem At.mono {S S':St}{lo hi:Nat}{a:List Ld} (ha:At S lo hi a) (h:S'.B=S.B):At S' lo hi a:=ha.keep fun b _ _=>by rw[h]
theorem At.skip {S S':St}{lo hi q:Nat}{cs:List SV}{a:List Ld} (ha:At S lo hi a) (hq:q<lo∨hi≤q) (h:S'.B=upd S.B q cs):At S' lo hi a:=ha.keep fun b h1 h2=>by rw[h,upd_ne _ _ (by omega)]
abbrev rowF1 (gl:Nat→Option D) (f:Nat) (ds:List D) (x:Sk):Prop:=FCall Tryz.prog gl f ds (x.can 0).sv (cntL [x]) (newL [x])
inductive Typ where
  | mk (name:ByteArray) (of:List Typ) (must:Bool)
  deriving Inhabited
mutual
def Typ.cells:Typ→List D
  | .mk t l b=>[dS t, .ps (typsCells l) l.length,dB b]
def typsCells:List Typ→List D
  | []=>[]
  | v::r=>v.cells++typsCells r
end
abbrev Typ.d (v:Typ):D:=.agg v.cells
abbrev typsD (l:List Typ):D:=.ps (typsCells l) l.length
theorem tcells_len (v:Typ):v.cells.length=3:=by cases v;rfl
@[simp] theorem take_tcells (v:Typ):v.cells.take 3=v.cells:=List.take_of_length_le (by rw[tcells_len];exact Nat.le_refl _)
@[simp] theorem take_tcellsS (v:Typ):(v.cells.map SV.d).take 3=v.cells.map SV.d:=List.take_of_length_le (by rw[List.length_map,tcells_len];exact Nat.le_refl _)
inductive TLe (n:Nat):Typ→Prop
  | mk {t:ByteArray} {l:List Typ} {b:Bool} (ht:t.size≤n) (hl:l.length≤n) (h:∀ v∈l,TLe n v):TLe n (.mk t l b)
theorem TLe.mono {n m:Nat} (hnm:n≤m):∀ {v:Typ},TLe n v→TLe m v
  | .mk t l b, .mk ht hl h=>.mk (by omega) (by omega) fun v hv =>
    have:=List.sizeOf_lt_of_mem hv
    TLe.mono hnm (h v hv)
termination_by v=>SizeOf.sizeOf v
decreasing_by
  simp_wf
  omega
structure Arg where
  name:ByteArray
  ty:Typ
  has:Bool
  els:Val
def Arg.cells (a:Arg):List D:=dS a.name::(a.ty.cells++dB a.has::a.els.cells)
abbrev Arg.d (a:Arg):D:=.agg a.cells
def argsCells (l:List Arg):List D:=l.flatMap Arg.cells
abbrev argsD (l:List Arg):D:=.ps (argsCells l) l.length
theorem acells_len (a:Arg):a.cells.length=10:=by simp[Arg.cells,cells_len,tcells_len]
theorem args_len (l:List Arg):(argsCells l).length=l.length*10:=row_len acells_len l
theorem args_at (l:List Arg) {i:Nat} (hi:i<l.length):((argsCells l).drop (i*10)).take 10=(l[i]).cells:=row_at acells_len l i hi
structure ALe (n:Nat) (a:Arg):Prop where
  name:a.name.size≤n
  ty:TLe n a.ty
def ArgOk (a:Arg):Prop:=a.name.size≤4611686018427387904∧TLe 4611686018427387904 a.ty∧WF a.els
def ArgSm (a:Arg):Prop:=a.name.size≤1048576∧TLe 1048576 a.ty∧Small a.els
theorem TLe.big {v:Typ} (h:TLe 1048576 v):TLe 4611686018427387904 v:=h.mono (by omega)
theorem arg_ok {a:Arg} (h:ArgSm a):ArgOk a:=⟨by have:=h.1;omega,h.2.1.big,small_wf h.2.2⟩
structure Fld where
  name:ByteArray
  args:List Arg
  ty:Typ
def Fld.cells (a:Fld):List D:=dS a.name::argsD a.args::a.ty.cells
abbrev Fld.d (a:Fld):D:=.agg a.cells
def fldsCells (l:List Fld):List D:=l.flatMap Fld.cells
abbrev fldsD (l:List Fld):D:=.ps (fldsCells l) l.length
theorem fcells_len (a:Fld):a.cells.length=5:=by simp[Fld.cells,tcells_len]
theorem flds_len (l:List Fld):(fldsCells l).length=l.length*5:=row_len fcells_len l
theorem flds_at (l:List Fld) {i:Nat} (hi:i<l.length):((fldsCells l).drop (i*5)).take 5=(l[i]).cells:=row_at fcells_len l i hi
def FldOk (a:Fld):Prop:=a.name.size≤4611686018427387904∧(a.args.length≤4611686018427387904∧∀ x∈a.args,ArgOk x)∧TLe 4611686018427387904 a.ty
def FldSm (a:Fld):Prop:=a.name.size≤1048576∧(a.args.length≤1048576∧∀ x∈a.args,ArgSm x)∧TLe 1048576 a.ty
structure Def where
  name:ByteArray
  kind:Int
  flds:List Fld
  words:List ByteArray
def Def.cells (a:Def):List D:=[dS a.name,dI a.kind,fldsD a.flds,namesD a.words]
abbrev Def.d (a:Def):D:=.agg a.cells
def defsCells (l:List Def):List D:=l.flatMap Def.cells
abbrev defsD (l:List Def):D:=.ps (defsCells l) l.length
theorem dcells_len (a:Def):a.cells.length=4:=rfl
@[simp] theorem take_dcellsS (v:Def):(v.cells.map SV.d).take 4=v.cells.map SV.d:=List.take_of_length_le (by rw[List.length_map,dcells_len];exact Nat.le_refl _)
theorem defs_len (l:List Def):(defsCells l).length=l.length*4:=row_len dcells_len l
theorem defs_at (l:List Def) {i:Nat} (hi:i<l.length):((defsCells l).drop (i*4)).take 4=(l[i]).cells:=row_at dcells_len l i hi
def DefOk (a:Def):Prop:=a.name.size≤4611686018427387904∧(a.flds.length≤4611686018427387904∧∀ x∈a.flds,FldOk x)∧NamesOk a.words
def DefSm (a:Def):Prop:=a.name.size≤1048576∧(a.flds.length≤1048576∧∀ x∈a.flds,FldSm x)∧(a.words.length≤1048576∧∀ s∈a.words,s.size≤1048576)
abbrev noS:ByteArray:=⟨#[]⟩
def typB:Typ→Nat→Bool
  | _,0=>false
  | .mk t l _,d+1=>if t=noS then (match l with | [x]=>typB x d | _=>false) else nameB t&&decide (l.length=0)
set_option maxHeartbeats 1000000 in
theorem p_typeFormIn (v:Typ) (hv:TLe 4611686018427387904 v) (d:Nat) (hd:d≤1000000):PCall Tryz.prog gl 119 [v.d,dI d] (dB (typB v d)):=by
  match v,d,hv with
  | v,0,_ =>
    cases v with
    | mk t l b =>
    refine PCall.by_ (md:=[]) Tryz.func119 rfl (by kernel_rfl) (n:=32) Tryz.ntmps119 (by simp) (by decide) rfl ?_
    simp[Typ.cells,typB]
  | .mk t l b,d+1, .mk ht hl hwf =>
    have ih:∀ x,l=[x]→PCall Tryz.prog gl 119 [x.d,dI d] (dB (typB x d)):=fun x e=>p_typeFormIn x (hwf x (by simp[e])) d (by omega)
    refine PCall.by_ (md:=[]) Tryz.func119 rfl (by kernel_rfl) (n:=32) Tryz.ntmps119 (by simp) (by decide) rfl ?_
    have w0:IntKind.i64.wrap (d:Int)=d:=wrap64 (by omega) (by omega)
    have h1:¬ ((d:Int)+1<1):=by omega
    simp[Typ.cells,h1]
    by_cases ht0:t=noS
    · subst ht0
      simp
      match l,ih with
      | [],_=>simp[typB]
      | [x],ih =>
        simp[typB,w0,typsCells,tcells_len]
        repeat refine⟨DrawT.mk (by kernel_rfl),?_⟩
        refine CallT.p0 (ih x rfl) (by first | rfl | (simp;done)|(simp[Typ.cells,typB,w0,h1,typsCells,tcells_len];done)) (by first | rfl | (simp;done)|(simp;rfl)|(simp[Typ.cells,typB,w0,h1,typsCells,tcells_len];done)) ?_
        simp
      | x::y::r,_ =>
        have hr:¬ ((r.length:Int)+1+1=1):=by omega
        simp[typB,hr]
    · have ht1:¬ t=⟨#[]⟩:=ht0
      have hq:typB (.mk t l b) (d+1)=(nameB t&&decide (l.length=0)):=by unfold typB;rw[if_neg ht0]
      simp[ht0,hq]
      repeat refine⟨DrawT.mk (by kernel_rfl),?_⟩
      refine CallT.p0 (p_isName t ht) (by first | rfl | (simp;done)|(simp[Typ.cells,typB,w0,h1,ht0,ht1,hq];done)) (by first | rfl | (simp;done)|(simp;rfl)|(simp[Typ.cells,typB,w0,h1,ht0,ht1,hq];done)) ?_
      simp
      refine BrT.mk (fun hn2=>?_) (fun hn2=>?_)
      · simp[hn2]
      · simp[hn2]
  termination_by d
theorem p_typeForm (v:Typ) (hv:TLe 4611686018427387904 v):PCall Tryz.prog gl 60 [v.d] (dB (typB v 3)):=by
  have h:=p_typeFormIn (gl:=gl) v hv 3 (by omega)
  refine PCall.by_ (md:=[]) Tryz.func60 rfl (by kernel_rfl) (n:=5) Tryz.ntmps60 (by simp) (by decide) rfl ?_
  simp[tcells_len]
  repeat refine⟨DrawT.mk (by kernel_rfl),?_⟩
  refine CallT.p0 (h) (by first | rfl | (simp;done)|(simp[tcells_len];done)) (by first | rfl | (simp;done)|(simp;rfl)|(simp[tcells_len];done)) ?_
  simp
def groundB (s:ByteArray):Bool:=decide (s=⟨#[73,110,116]⟩) || decide (s=⟨#[83,116,114,105,110,103]⟩) || decide (s=⟨#[66,111,111,108,101,97,110]⟩) || decide (s=⟨#[73,68]⟩)
theorem p_isGround (s:ByteArray):PCall Tryz.prog gl 102 [dS s] (dB (groundB s)):=by
  refine PCall.by_ (md:=[]) Tryz.func102 rfl (by kernel_rfl) (n:=17) Tryz.ntmps102 (by simp) (by decide) rfl ?_
  simp
  repeat' first
    | (refine BrT.dec (fun h=>?_) (fun h=>?_)<;>simp[h])
  all_goals (unfold groundB;simp[*])
def baseT:Typ→ByteArray
  | .mk t l _=>if t=noS then (match l with | x::_=>baseT x | []=>noS) else t
def isZero:Val→Bool
  | .mk k n t l ns=>decide (k=0)&&decide (n=0)&&decide (t=noS)&&decide (l.length=0)&&decide (ns.length=0)
theorem isZero_iff {v:Val}:isZero v=true↔v=.mk 0 0 noS [] []:=by
  cases v with
  | mk k n t l ns =>
    simp[isZero,and_assoc]
set_option maxHeartbeats 1000000 in
theorem p_sameTop0 (v:Val) (hv:WF v):PCall Tryz.prog gl 144 [v.d,(Val.mk 0 0 noS [] []).d] (dB (isZero v)):=by
  cases hv with
  | mk ht hn hl hwf =>
    rename_i k n t l ns
    have heq:ns.length=0→PCall Tryz.prog gl 180 [namesD ns,namesD []] (dB true):=fun h=>by
      have:=List.eq_nil_of_length_eq_zero h
      subst this
      refine PCall.by_ (md:=[]) Tryz.func180 rfl (by kernel_rfl) (n:=26) Tryz.ntmps180 (by simp) (by decide) rfl ?_
      simp
      refine LoopT.rounds 1 ?_
      simp[RndT_succ]
    have hne:¬ ns.length=0→PCall Tryz.prog gl 180 [namesD ns,namesD []] (dB false):=fun h=>by
      refine PCall.by_ (md:=[]) Tryz.func180 rfl (by kernel_rfl) (n:=26) Tryz.ntmps180 (by simp) (by decide) rfl ?_
      have h1:¬ ((ns.length:Int)=0):=by omega
      simp[h]
    refine PCall.by_ (md:=[]) Tryz.func144 rfl (by kernel_rfl) (n:=40) Tryz.ntmps144 (by simp) (by decide) rfl ?_
    simp[Val.cells,valsCells,isZero]
    refine BrT.dec (fun c0=>?_) (fun c0=>?_)
    case refine_2=>simp[c0]
    simp[c0]
    refine BrT.dec (fun c1=>?_) (fun c1=>?_)
    case refine_2=>simp[c1]
    simp[c1]
    refine BrT.dec (fun c2=>?_) (fun c2=>?_)
    case refine_2=>simp[c2]
    simp[c2]
    refine BrT.dec (fun c3=>?_) (fun c3=>?_)
    case refine_2=>simp[c3]
    simp[valsCells,c3]
    by_cases h:ns.length=0
    · repeat refine⟨DrawT.mk (by kernel_rfl),?_⟩
      refine CallT.p0 (heq h) (by first | rfl | (simp;done)|(simp[Val.cells,valsCells,isZero,c0,c1,c2,c3];done)) (by first | rfl | (simp;done)|(simp;rfl)|(simp[Val.cells,valsCells,isZero,c0,c1,c2,c3];done)) ?_
      simp
      exact List.eq_nil_of_length_eq_zero h
    · repeat refine⟨DrawT.mk (by kernel_rfl),?_⟩
      refine CallT.p0 (hne h) (by first | rfl | (simp;done)|(simp[Val.cells,valsCells,isZero,c0,c1,c2,c3];done)) (by first | rfl | (simp;done)|(simp;rfl)|(simp[Val.cells,valsCells,isZero,c0,c1,c2,c3];done)) ?_
      simp
      exact fun e=>h (by rw[e];rfl)
set_option maxHeartbeats 1000000 in
theorem p_same0 (v:Val) (hv:WF v):PCall Tryz.prog gl 88 [v.d,(Val.mk 0 0 noS [] []).d] (dB (isZero v)):=by
  have hs:=p_sameTop0 (gl:=gl) v hv
  have hz:isZero v=true→v=.mk 0 0 noS [] []:=isZero_iff.1
  cases v with
  | mk k n t l ns =>
  generalize isZero (.mk k n t l ns)=z at hs hz ⊢
  refine PCall.by_ (md:=[16]) Tryz.func88 rfl (by kernel_rfl) (n:=85) Tryz.ntmps88 (by simp) (by decide) rfl ?_
  simp[Val.cells,valsCells]
  refine LoopT.rounds 2 ?_
  simp[RndT_succ]
  repeat refine⟨DrawT.mk (by kernel_rfl),?_⟩
  refine CallT.p0 (hs) (by first | rfl | (simp;done)|(simp[Val.cells,valsCells,RndT_succ];done)) (by first | rfl | (simp;done)|(simp;rfl)|(simp[Val.cells,valsCells,RndT_succ];done)) ?_
  simp
  cases z with
  | false=>simp
  | true =>
    obtain⟨rfl,rfl,rfl,rfl,rfl⟩:=Val.mk.inj (hz rfl)
    simp[valsCells]
def elseB (has:Bool) (v:Val):Bool:=if has=true then okB v 3 true else isZero v
theorem p_elseForm (has:Bool) (v:Val) (hv:WF v):PCall Tryz.prog gl 186 [dB has,v.d] (dB (elseB has v)):=by
  refine PCall.by_ (md:=[]) Tryz.func186 rfl (by kernel_rfl) (n:=12) Tryz.ntmps186 (by simp) (by decide) rfl ?_
  simp[elseB]
  cases has with
  | false =>
    simp[cells_len]
    repeat refine⟨DrawT.mk (by kernel_rfl),?_⟩
    refine CallT.p0 (p_same0 v hv) (by first | rfl | (simp;done)|(simp[elseB,cells_len];done)) (by first | rfl | (simp;done)|(simp;rfl)|(simp[elseB,cells_len];done)) ?_
    simp
  | true =>
    simp[cells_len]
    repeat refine⟨DrawT.mk (by kernel_rfl),?_⟩
    refine CallT.p0 (p_fitsIn v hv 3 true (by omega) (by omega)) (by first | rfl | (simp;done)|(simp[elseB,cells_len];done)) (by first | rfl | (simp;done)|(simp;rfl)|(simp[elseB,cells_len];done)) ?_
    simp
def argB (a:Arg):Bool:=typB a.ty 3&&elseB a.has a.els
abbrev anames (l:List Arg):List ByteArray:=l.map Arg.name
def argsB (l:List Arg):Bool:=decide (l.length≤4)&&(l.all argB&&onceB (anames l))
theorem all_take {α:Type}{p:α→Bool}{l:List α}{i:Nat} (hi:i<l.length) (h:(l.take i).all p=true) (hp:p l[i]=true):(l.take (i+1)).all p=true:=by
  rw[List.take_succ_eq_append_getElem hi,List.all_append,h];simp[hp]
theorem all_bad {α:Type}{p:α→Bool}{l:List α}{i:Nat} (hi:i<l.length) (hp:p l[i]=false):l.all p=false:=by
  cases h:l.all p with
  | false=>rfl
  | true=>rw[List.all_eq_true.1 h _ (List.getElem_mem hi)] at hp;cases hp
def accN {α:Type} (f:α→ByteArray) (l:List α) (i:Nat):List D:=((l.take i).map f).map dS
theorem accN_next {α:Type} (f:α→ByteArray) (l:List α) {i:Nat} (hi:i<l.length):accN f l (i+1)=accN f l i++[dS (f l[i])]:=by
  unfold accN
  rw[List.take_succ_eq_append_getElem hi,List.map_append,List.map_append];rfl
@[simp] theorem accN_zero {α:Type} (f:α→ByteArray) (l:List α):accN f l 0=[]:=rfl
theorem accN_len {α:Type} (f:α→ByteArray) (l:List α) {i:Nat} (hi:i≤l.length):(accN f l i).length=i:=by simp[accN];omega
theorem accN_all {α:Type} (f:α→ByteArray) (l:List α):accN f l l.length=(l.map f).map dS:=by simp[accN]
def allUp {α:Type} (p:α→Bool) (l:List α) (i:Nat):Prop:=(l.take i).all p=true
theorem allUp_zero {α:Type} (p:α→Bool) (l:List α):allUp p l 0:=rfl
theorem allUp_all {α:Type}{p:α→Bool}{l:List α} (h:allUp p l l.length):l.all p=true:=by
  unfold allUp at h
  rwa [List.take_length] at h
theorem AccD.snoc {α:Type}{f:α→ByteArray}{l:List α}{S S':St}{i q:Nat} (hi:i<l.length) (hq:q<S'.nx) (hT:S'.T q=some (i+1,1)) {x:ByteArray} (hx:x=f l[i]):AccD 1 S' (.tp q 0 (accN f l i++[dS x]) (i+1)) (accN f l (i+1)) (i+1):=by
  subst hx
  exact .inr ⟨by omega,q,hq,by rw[accN_next f l hi],hT⟩
theorem AccD.names {α:Type}{f:α→ByteArray}{l:List α}{S:St}{X:SV} (h:AccD 1 S X (accN f l l.length) l.length):X.toD=some (namesD (l.map f)):=by
  have e:(l.map f).length=l.length:=List.length_map ..
  rcases h with ⟨h1,h2,rfl⟩ | ⟨h0,q,hq,rfl,hT⟩
  · have:l=[]:=List.eq_nil_of_length_eq_zero h1
    subst this;rfl
  · simp only[SV.toD,accN_all,namesD,e]
set_option maxHeartbeats 2000000 in
theorem p_argsForm (l:List Arg) (hl:l.length≤4611686018427387904) (hok:∀ a∈l,ArgOk a):PCall Tryz.prog gl 156 [argsD l] (dB (argsB l)):=by
  refine PCall.by_ (md:=[]) Tryz.func156 rfl (by kernel_rfl) (n:=36) Tryz.ntmps156 (by simp) (by decide) rfl ?_
  simp
  refine BrT.dec (fun c0=>?_) (fun c0=>?_)
  · have:argsB l=false:=by simp[argsB];intro h;omega
    simp[c0,this]
  have hl4:l.length≤4:=by omega
  have hb:argsB l=(l.all argB&&onceB (anames l)):=by simp[argsB,hl4]
  simp[c0]
  refine LoopT.round (fun E S=>∃ (i:Nat) (X:SV),(i≤l.length)∧E 3=some (X)∧E 10=some (.d (argsD l))∧E 11=some (.d (dI l.length))∧E 12=some (.d (dI i))∧(AccD 1 S X (accN Arg.name l i) i)∧(allUp argB l i)) (upTo 12 l.length) ⟨0, .fl [] 0,by simp;exact⟨AccD.nil,allUp_zero _ _⟩⟩ ?_
  rintro E S hk ⟨i,X,hi,h3,h10,h11,h12,hA,hp⟩
  have hn:S.n=36:=by first | (simpa using hk.n)|(have hh:=hk.n;simp[c0] at hh;exact hh)
  have hg:S.gl=gl:=by first | (simpa using hk.gl)|(have hh:=hk.gl;simp[c0] at hh;exact hh)
  have hmd:S.md=[]:=by first | (simpa using hk.md)|(have hh:=hk.md;simp[c0] at hh;exact hh)
  simp[h11,h12,hn,hg]
  have w:=wrap64 (n:=(i:Int)+1) (by omega) (by omega)
  refine BrT.dec (fun c=>?_) (fun c=>?_)
  · have hi2:i<l.length:=by omega
    have hlen:=args_len l
    have hfit:i*10+10≤l.length*10:=by omega
    have hN:=hok _ (List.getElem_mem hi2)
    have bad:=all_bad (p:=argB) hi2
    have good:=all_take (p:=argB) hi2 hp
    have hat:=args_at l hi2
    have hcl:=accN_len Arg.name l hi
    obtain⟨x,hx⟩:∃ x,l[i].name=x:=⟨_,rfl⟩
    have hsn:=fun S' q h1 h2=>AccD.snoc (f:=Arg.name) (l:=l) (S:=S) (S':=S') (i:=i) (q:=q) hi2 h1 h2 hx.symm
    generalize hav:l[i]=a at hN bad good hat hx
    have hT:=p_typeForm (gl:=gl) a.ty hN.2.1
    have hE:=p_elseForm (gl:=gl) a.has a.els hN.2.2
    have hab:argB a=(typB a.ty 3&&elseB a.has a.els):=rfl
    obtain⟨nm,ty,has,els⟩:=a
    cases ty with
    | mk t lt b =>
    cases els with
    | mk k n t2 l2 ns =>
    simp only[Arg.cells,Typ.cells,Val.cells,List.cons_append,List.nil_append] at hat
    simp[h10,h12,hn,c,hlen,hfit,hat]
    repeat refine⟨DrawT.mk (by kernel_rfl),?_⟩
    refine CallT.p0 (hT) (by first | rfl | (simp;done)|(simp[hg];done)) (by first | rfl | (simp;done)|(simp;rfl)|(simp[c0,h3,h10,h11,h12,hn,hg,hmd,c,hi2,w,hlen,hfit,hat];done)) ?_
    simp[hn]
    simp only at hab
    refine BrT.mk (fun c1=>?_) (fun c1=>?_)
    case refine_2=>(have hq:=bad (by rw[hab,c1];rfl);simp[hn,c1,hb,hq])
    simp[hn,c1]
    repeat refine⟨DrawT.mk (by kernel_rfl),?_⟩
    refine CallT.p0 (hE) (by first | rfl | (simp;done)|(simp[hg];done)) (by first | rfl | (simp;done)|(simp;rfl)|(simp[c0,h3,h10,h11,h12,hn,hg,hmd,c,hi2,w,hlen,hfit,hat,c1];done)) ?_
    simp[hn]
    refine BrT.mk (fun c2=>?_) (fun c2=>?_)
    case refine_2=>(have hq:=bad (by rw[hab,c2,Bool.and_false]);simp[hn,c2,hb,hq])
    simp[h3,hn,hmd,c2]
    have hp2:allUp argB l (i+1):=good (by rw[hab,c1,c2];rfl)
    simp only at hx
    subst hx
    rcases hA with ⟨rfl,_,rfl⟩ | ⟨h0,q,hq,rfl,hT⟩
    · simp[h10,h11,h12,hn,hmd]
      exact⟨by unfold appBound;omega,⟨1,by omega,rfl,hsn _ _ (by simp) (by simp),hp2⟩,upTo_lt h12 (by simp) hi2⟩
    · simp[h10,h11,h12,hn,w,hT,hcl]
      exact⟨by unfold appBound;omega,⟨i+1,hi2,by omega,hsn _ _ (by simp;omega) (by simp),hp2⟩,upTo_lt h12 (by simp) hi2⟩
  · have hi3:i=l.length:=by omega
    subst hi3
    have hnm:NamesOk (anames l):=⟨by simp;omega,fun s hs=>by
      obtain⟨a,ha,rfl⟩:=List.mem_map.1 hs
      exact (hok a ha).1⟩
    have hX:=hA.names
    have hp:=allUp_all hp
    simp[h3,hn,c]
    refine CallT.p (p_namesOnce (anames l) hnm) (by first | rfl | simp[hg]) (by show (match X.toD,some [] with | some x,some r=>some (x::r) | _,_=>none)=_;rw[hX]) ?_
    simp[hn,hb,hp]
def fldB (inp:Bool) (f:Fld):Bool:=typB f.ty 3&&argsB f.args && !(inp&&decide (0<f.args.length))
abbrev fnames (l:List Fld):List ByteArray:=l.map Fld.name
def fldsB (inp:Bool) (l:List Fld):Bool:=decide (1≤l.length)&&decide (l.length≤8)&&(l.all (fldB inp)&&onceB (fnames l))
set_option maxHeartbeats 2000000 in
theorem p_fieldsForm (l:List Fld) (inp:Bool) (hl:l.length≤4611686018427387904) (hok:∀ a∈l,FldOk a):PCall Tryz.prog gl 103 [fldsD l,dB inp] (dB (fldsB inp l)):=by
  refine PCall.by_ (md:=[]) Tryz.func103 rfl (by kernel_rfl) (n:=50) Tryz.ntmps103 (by simp) (by decide) rfl ?_
  simp
  by_cases hin:1≤l.length∧l.length≤8
  case neg =>
    have hb:fldsB inp l=false:=by
      unfold fldsB
      rw[show (decide (1≤l.length)&&decide (l.length≤8))=false by simp;omega];rfl
    refine BrT.dec (fun c0=>?_) (fun c0=>?_)
    · simp[c0,hb]
    · simp[c0]
      have c1:(8:Int)<l.length:=by omega
      simp[c1,hb]
  have hb:fldsB inp l=(l.all (fldB inp)&&onceB (fnames l)):=by
    unfold fldsB
    rw[show (decide (1≤l.length)&&decide (l.length≤8))=true by simp;omega];rfl
  have n1:¬ ((l.length:Int)<1):=by omega
  have n2:¬ ((8:Int)<l.length):=by omega
  simp[n1,n2]
  refine LoopT.round (fun E S=>∃ (i:Nat) (X:SV),(i≤l.length)∧E 1=some (.d (dB inp))∧E 5=some (X)∧E 17=some (.d (fldsD l))∧E 18=some (.d (dI l.length))∧E 19=some (.d (dI i))∧(AccD 1 S X (accN Fld.name l i) i)∧(allUp (fldB inp) l i)) (upTo 19 l.length) ⟨0, .fl [] 0,by simp;exact⟨AccD.nil,allUp_zero _ _⟩⟩ ?_
  rintro E S hk ⟨i,X,hi,h1,h5,h17,h18,h19,hA,hp⟩
  have hn:S.n=50:=by first | (simpa using hk.n)|(have hh:=hk.n;simp[n1,n2] at hh;exact hh)
  have hg:S.gl=gl:=by first | (simpa using hk.gl)|(have hh:=hk.gl;simp[n1,n2] at hh;exact hh)
  have hmd:S.md=[]:=by first | (simpa using hk.md)|(have hh:=hk.md;simp[n1,n2] at hh;exact hh)
  simp[h18,h19,hn,hg]
  have w:=wrap64 (n:=(i:Int)+1) (by omega) (by omega)
  refine BrT.dec (fun c=>?_) (fun c=>?_)
  · have hi2:i<l.length:=by omega
    have hlen:=flds_len l
    have hfit:i*5+5≤l.length*5:=by omega
    have hN:=hok _ (List.getElem_mem hi2)
    have bad:=all_bad (p:=fldB inp) hi2
    have good:=all_take (p:=fldB inp) hi2 hp
    have hat:=flds_at l hi2
    have hcl:=accN_len Fld.name l hi
    obtain⟨x,hx⟩:∃ x,l[i].name=x:=⟨_,rfl⟩
    have hsn:=fun S' q h1 h2=>AccD.snoc (f:=Fld.name) (l:=l) (S:=S) (S':=S') (i:=i) (q:=q) hi2 h1 h2 hx.symm
    generalize hav:l[i]=a at hN bad good hat hx
    have hT:=p_typeForm (gl:=gl) a.ty hN.2.2
    have hE:=p_argsForm (gl:=gl) a.args hN.2.1.1 hN.2.1.2
    have hab:fldB inp a=(typB a.ty 3&&argsB a.args && !(inp&&decide (0<a.args.length))):=rfl
    obtain⟨nm,args,ty⟩:=a
    cases ty with
    | mk t lt b =>
    simp only[Fld.cells,Typ.cells] at hat
    simp[h17,h19,hn,c,hlen,hfit,hat]
    repeat refine⟨DrawT.mk (by kernel_rfl),?_⟩
    refine CallT.p0 (hT) (by first | rfl | (simp;done)|(simp[hg];done)) (by first | rfl | (simp;done)|(simp;rfl)|(simp[n1,n2,h1,h5,h17,h18,h19,hn,hg,hmd,c,hi2,w,hlen,hfit,hat];done)) ?_
    simp[hn]
    simp only at hab
    refine BrT.mk (fun c1=>?_) (fun c1=>?_)
    case refine_2=>(have hq:=bad (by rw[hab,c1];rfl);simp[hn,c1,hb,hq])
    simp[hn,c1]
    repeat refine⟨DrawT.mk (by kernel_rfl),?_⟩
    refine CallT.p0 (hE) (by first | rfl | (simp;done)|(simp[hg];done)) (by first | rfl | (simp;done)|(simp;rfl)|(simp[n1,n2,h1,h5,h17,h18,h19,hn,hg,hmd,c,hi2,w,hlen,hfit,hat,c1];done)) ?_
    simp[hn]
    refine BrT.mk (fun c2=>?_) (fun c2=>?_)
    case refine_2=>(have hq:=bad (by rw[hab,c2,Bool.and_false];rfl);simp[hn,c2,hb,hq])
    cases inp with
    | false =>
      simp[h1,h5,hn,hmd,c2]
      have hp2:allUp (fldB false) l (i+1):=good (by rw[hab,c1,c2];rfl)
      simp only at hx
      subst hx
      rcases hA with ⟨rfl,_,rfl⟩ | ⟨h0,q,hq,rfl,hT⟩
      · simp[h1,h17,h18,h19,hn,hmd]
        exact⟨by unfold appBound;omega,⟨1,by omega,rfl,hsn _ _ (by simp) (by simp),hp2⟩,upTo_lt h19 (by simp) hi2⟩
      · simp[h1,h17,h18,h19,hn,w,hT,hcl]
        exact⟨by unfold appBound;omega,⟨i+1,hi2,by omega,hsn _ _ (by simp;omega) (by simp),hp2⟩,upTo_lt h19 (by simp) hi2⟩
    | true =>
      by_cases hz:0<args.length
      · have hz2:(0:Int)<args.length:=by omega
        have hq:=bad (by rw[hab,decide_eq_true hz];simp)
        simp[h1,hn,c2,hz,hb,hq]
      · have hz3:args=[]:=List.eq_nil_of_length_eq_zero (by omega)
        subst hz3
        simp[h1,h5,hn,hmd,c2]
        have hp2:allUp (fldB true) l (i+1):=good (by rw[hab,c1,c2];rw[decide_eq_false hz];rfl)
        simp only at hx
        subst hx
        rcases hA with ⟨rfl,_,rfl⟩ | ⟨h0,q,hq,rfl,hT⟩
        · simp[h1,h17,h18,h19,hn,hmd]
          exact⟨by unfold appBound;omega,⟨1,by omega,rfl,hsn _ _ (by simp) (by simp),hp2⟩,upTo_lt h19 (by simp) hi2⟩
        · simp[h1,h17,h18,h19,hn,w,hT,hcl]
          exact⟨by unfold appBound;omega,⟨i+1,hi2,by omega,hsn _ _ (by simp;omega) (by simp),hp2⟩,upTo_lt h19 (by simp) hi2⟩
  · have hi3:i=l.length:=by omega
    subst hi3
    have hnm:NamesOk (fnames l):=⟨by simp;omega,fun s hs=>by
      obtain⟨a,ha,rfl⟩:=List.mem_map.1 hs
      exact (hok a ha).1⟩
    have hX:=hA.names
    have hp:=allUp_all hp
    simp[h5,hn,c]
    refine CallT.p (p_namesOnce (fnames l) hnm) (by first | rfl | simp[hg]) (by show (match X.toD,some [] with | some x,some r=>some (x::r) | _,_=>none)=_;rw[hX]) ?_
    simp[hn,hb,hp]
def defB (d:Def):Bool:=nameB d.name && !groundB d.name &&
  (if d.kind=1∨d.kind=3 then decide (d.words.length=0)&&fldsB (decide (d.kind=3)) d.flds
   else if d.kind=2∨d.kind=4 then decide (d.flds.length=0)&&(decide (1≤d.words.length)&&(decide (d.words.length≤8)&&onceB d.words))
   else false)
set_option maxHeartbeats 2000000 in
theorem p_defForm (d:Def) (hok:DefOk d):PCall Tryz.prog gl 46 [d.d] (dB (defB d)):=by
  obtain⟨h1,h2,h3⟩:=hok
  have hF:=fun b=>p_fieldsForm (gl:=gl) d.flds b h2.1 h2.2
  obtain⟨nm,kind,flds,words⟩:=d
  simp only at h1 h2 h3 hF
  refine PCall.by_ (md:=[]) Tryz.func46 rfl (by kernel_rfl) (n:=53) Tryz.ntmps46 (by simp) (by decide) rfl ?_
  simp[Def.cells,defB]
  repeat refine⟨DrawT.mk (by kernel_rfl),?_⟩
  refine CallT.p0 (p_isName nm h1) (by first | rfl | (simp;done)|(simp[Def.cells,defB];done)) (by first | rfl | (simp;done)|(simp;rfl)|(simp[Def.cells,defB];done)) ?_
  simp
  refine BrT.mk (fun c1=>?_) (fun c1=>?_)
  case refine_2=>simp[c1]
  simp[c1]
  repeat refine⟨DrawT.mk (by kernel_rfl),?_⟩
  refine CallT.p0 (p_isGround nm) (by first | rfl | (simp;done)|(simp[Def.cells,defB,c1];done)) (by first | rfl | (simp;done)|(simp;rfl)|(simp[Def.cells,defB,c1];done)) ?_
  simp
  refine BrT.mk (fun c2=>?_) (fun c2=>?_)
  case refine_1=>simp[c2]
  simp[c2]
  refine BrT.dec (fun k1=>?_) (fun k1=>?_)
  · simp[k1]
    refine BrT.dec (fun w0=>?_) (fun w0=>?_)
    case refine_2=>simp[w0]
    simp[w0]
    repeat refine⟨DrawT.mk (by kernel_rfl),?_⟩
    refine CallT.p0 (hF false) (by first | rfl | (simp;done)|(simp[Def.cells,defB,c1,c2,k1,w0];done)) (by first | rfl | (simp;done)|(simp;rfl)|(simp[Def.cells,defB,c1,c2,k1,w0];done)) ?_
    simp
  simp[k1]
  refine BrT.dec (fun k3=>?_) (fun k3=>?_)
  · simp[k3]
    refine BrT.dec (fun w0=>?_) (fun w0=>?_)
    case refine_2=>simp[w0]
    simp[w0]
    repeat refine⟨DrawT.mk (by kernel_rfl),?_⟩
    refine CallT.p0 (hF true) (by first | rfl | (simp;done)|(simp[Def.cells,defB,c1,c2,k1,k3,w0];done)) (by first | rfl | (simp;done)|(simp;rfl)|(simp[Def.cells,defB,c1,c2,k1,k3,w0];done)) ?_
    simp
  simp[k3]
  refine BrT.dec (fun k2=>?_) (fun k2=>?_)
  · simp[k2]
    refine BrT.dec (fun f0=>?_) (fun f0=>?_)
    case refine_2=>simp[f0]
    simp[f0]
    by_cases g1:1≤words.length
    · by_cases g2:words.length≤8
      · have g3:(1:Int)≤words.length:=by omega
        have g4:(words.length:Int)≤8:=by omega
        have g5:words≠[]:=fun e=>by rw[e] at g1;simp at g1
        simp[g1,g2,g3,g4]
        repeat refine⟨DrawT.mk (by kernel_rfl),?_⟩
        refine CallT.p0 (p_namesOnce words h3) (by first | rfl | (simp;done)|(simp[Def.cells,defB,c1,c2,k1,k3,k2,f0,g1,g2,g3,g4,g5];done)) (by first | rfl | (simp;done)|(simp;rfl)|(simp[Def.cells,defB,c1,c2,k1,k3,k2,f0,g1,g2,g3,g4,g5];done)) ?_
        simp
      · have g3:(1:Int)≤words.length:=by omega
        have g4:¬ (words.length:Int)≤8:=by omega
        simp[g1,g2,g3,g4]
    · have g3:¬ (1:Int)≤words.length:=by omega
      simp[g1,g3]
  simp[k2]
  refine BrT.dec (fun k4=>?_) (fun k4=>?_)
  · simp[k4]
    refine BrT.dec (fun f0=>?_) (fun f0=>?_)
    case refine_2=>simp[f0]
    simp[f0]
    by_cases g1:1≤words.length
    · by_cases g2:words.length≤8
      · have g3:(1:Int)≤words.length:=by omega
        have g4:(words.length:Int)≤8:=by omega
        have g5:words≠[]:=fun e=>by rw[e] at g1;simp at g1
        simp[g1,g2,g3,g4]
        repeat refine⟨DrawT.mk (by kernel_rfl),?_⟩
        refine CallT.p0 (p_namesOnce words h3) (by first | rfl | (simp;done)|(simp[Def.cells,defB,c1,c2,k1,k3,k2,k4,f0,g1,g2,g3,g4,g5];done)) (by first | rfl | (simp;done)|(simp;rfl)|(simp[Def.cells,defB,c1,c2,k1,k3,k2,k4,f0,g1,g2,g3,g4,g5];done)) ?_
        simp
      · have g3:(1:Int)≤words.length:=by omega
        have g4:¬ (words.length:Int)≤8:=by omega
        simp[g1,g2,g3,g4]
    · have g3:¬ (1:Int)≤words.length:=by omega
      simp[g1,g3]
  simp[k4]
theorem nameB_no:nameB noS=false:=by decide
set_option maxHeartbeats 2000000 in
theorem p_l2Type (v:Typ) (hv:TLe 4611686018427387904 v) (d:Nat) (hd:d≤1000000):PCall Tryz.prog gl 77 [v.d,dI (d+1:Nat)] (dB (typB v (d+1))):=by
  match v,d,hv with
  | .mk t l b,d, .mk ht hl hwf =>
    have ih:∀ x e,l=[x]→d=e+1→PCall Tryz.prog gl 77 [x.d,dI (e+1:Nat)] (dB (typB x (e+1))):=fun x e h1 h2=>p_l2Type x (hwf x (by simp[h1])) e (by omega)
    match l,ih with
    | [],_ =>
      have hq:typB (.mk t [] b) (d+1)=nameB t:=by
        unfold typB
        by_cases h0:t=noS
        · subst h0;rw[if_pos rfl,nameB_no]
        · rw[if_neg h0];simp
      refine PCall.by_ (md:=[]) Tryz.func77 rfl (by kernel_rfl) (n:=34) Tryz.ntmps77 (by simp) (by decide) rfl ?_
      simp[Typ.cells,hq]
      repeat refine⟨DrawT.mk (by kernel_rfl),?_⟩
      refine CallT.p0 (p_l1Name t ht) (by first | rfl | (simp;done)|(simp[Typ.cells,hq];done)) (by first | rfl | (simp;done)|(simp;rfl)|(simp[Typ.cells,hq];done)) ?_
      simp
    | [x],ih =>
      have hq:typB (.mk t [x] b) (d+1)=(decide (t=noS)&&typB x d):=by
        rw[typB]
        by_cases h0:t=noS
        · rw[if_pos h0,decide_eq_true h0];simp
        · rw[if_neg h0,decide_eq_false h0];simp
      refine PCall.by_ (md:=[]) Tryz.func77 rfl (by kernel_rfl) (n:=34) Tryz.ntmps77 (by simp) (by decide) rfl ?_
      simp[Typ.cells,hq,typsCells]
      refine BrT.dec (fun t0=>?_) (fun t0=>?_)
      case refine_2=>simp[t0]
      simp[t0]
      cases d with
      | zero =>
        have hz:typB x 0=false:=by cases x;rfl
        simp[hz]
      | succ e =>
        have h2:IntKind.i64.wrap ((e:Int)+1)=(e:Int)+1:=wrap64 (by omega) (by omega)
        have ih:=ih x e rfl rfl
        rw[show ((e+1:Nat):Int)=(e:Int)+1 from rfl] at ih
        refine BrT.dec (fun g=>?_) (fun g=>?_)
        case refine_2=>(exact absurd g (by omega))
        simp
        refine BrT.dec (fun g2=>?_) (fun g2=>?_)
        case refine_2=>(exact absurd g2 (by omega))
        simp[tcells_len,h2,g2]
        repeat refine⟨DrawT.mk (by kernel_rfl),?_⟩
        refine CallT.p0 (ih) (by first | rfl | (simp;done)|(simp[Typ.cells,hq,typsCells,tcells_len,t0,h2,g,g2];done)) (by first | rfl | (simp;done)|(simp;rfl)|(simp[Typ.cells,hq,typsCells,tcells_len,t0,h2,g,g2];done)) ?_
        simp
    | x::y::r,_ =>
      have hq:typB (.mk t (x::y::r) b) (d+1)=false:=by
        unfold typB
        by_cases h0:t=noS
        · rw[if_pos h0]
        · rw[if_neg h0];simp
      have hr:¬ ((r.length:Int)+1+1=1):=by omega
      have hr0:¬ ((r.length:Int)+1+1=0):=by omega
      refine PCall.by_ (md:=[]) Tryz.func77 rfl (by kernel_rfl) (n:=34) Tryz.ntmps77 (by simp) (by decide) rfl ?_
      simp[Typ.cells,hq,hr0]
      refine BrT.dec (fun t0=>?_) (fun t0=>?_)
      case refine_2=>simp[t0]
      simp[hr,t0]
  termination_by d
def atD (l:List Def) (s:ByteArray):Option Nat:=l.findIdx? fun d=>decide (d.name=s)
def schGo:List Def→List Def→List Def
  | acc,[]=>acc
  | acc,d::r=>match atD acc d.name with | none=>schGo (acc++[d]) r | some _=>schGo acc r
def schL (l:List Def):List Def:=schGo [] l
def ksD (l:List Def):List D:=l.map fun d=>.v (.string d.name)
def vsD (l:List Def):List SV:=l.map fun d=>.ag (d.cells.map .d)
abbrev schD (l:List Def):D:=.mp (ksD l) (l.map Def.d)
theorem idx_ks (l:List Def) (s:ByteArray):idxK (ksD l) s=some (atD l s):=idxK_map Def.name s l
@[simp] theorem vsD_len (l:List Def):(vsD l).length=l.length:=List.length_map ..
@[simp] theorem ksD_len (l:List Def):(ksD l).length=l.length:=List.length_map ..
theorem vsD_snoc (l:List Def) (d:Def):vsD (l++[d])=vsD l++[.ag (d.cells.map .d)]:=by simp[vsD]
theorem ksD_snoc (l:List Def) (d:Def):ksD (l++[d])=ksD l++[.v (.string d.name)]:=by simp[ksD]
theorem atD_lt {l:List Def}{s:ByteArray}{j:Nat} (h:atD l s=some j):j<l.length:=by
  unfold atD at h
  exact (List.findIdx?_eq_some_iff_getElem.1 h).1
theorem frz_vs (B:Nat→Option (List SV)) (k:Nat) (l:List Def):mapO (frz B (k+2)) (vsD l)=some (l.map Def.d):=by
  induction l with
  | nil=>rfl
  | cons d r ih =>
    have h1:frz B (k+2) (.ag (d.cells.map .d))=some d.d:=by
      show (mapO (frz B (k+1)) (d.cells.map .d)).map D.agg=_
      rw[mapO_frzd];rfl
    simp only[vsD,List.map_cons,mapO]
    simp only[vsD] at ih
    rw[h1,ih]
set_option maxHeartbeats 2000000 in
theorem p_schemaOf (l:List Def) (hl:l.length≤1000000):PCall Tryz.prog gl 47 [defsD l] (schD (schL l)):=by
  refine PCall.by_ (md:=[]) Tryz.func47 rfl (by kernel_rfl) (n:=30) Tryz.ntmps47 (by simp) (by decide) rfl ?_
  simp
  refine LoopT.round (fun E S=>∃ (i:Nat) (acc:List Def),(i≤l.length)∧E 3=some (.mv 1)∧E 9=some (.d (defsD l))∧E 10=some (.d (dI l.length))∧E 11=some (.d (dI i))∧S.B 1=some ([.mc (ksD acc) (vsD acc)])∧(schGo acc (l.drop i)=schL l)∧(2≤S.nx)) (upTo 11 l.length) ⟨0,[],by simp;exact⟨⟨rfl,rfl⟩,rfl⟩⟩ ?_
  rintro E S hk ⟨i,acc,hi,h3,h9,h10,h11,hB1,hp,hx⟩
  have hn:S.n=30:=by first | (simpa using hk.n)|(have hh:=hk.n;simp at hh;exact hh)
  have hg:S.gl=gl:=by first | (simpa using hk.gl)|(have hh:=hk.gl;simp at hh;exact hh)
  have hmd:S.md=[]:=by first | (simpa using hk.md)|(have hh:=hk.md;simp at hh;exact hh)
  simp[h10,h11,hn,hg]
  have w:=wrap64 (n:=(i:Int)+1) (by omega) (by omega)
  refine BrT.dec (fun c=>?_) (fun c=>?_)
  · have hi2:i<l.length:=by omega
    have hlen:=defs_len l
    have hfit:i*4+4≤l.length*4:=by omega
    rw[List.drop_eq_getElem_cons hi2] at hp
    have hat:=defs_at l hi2
    generalize l[i]=d at hp hat
    obtain⟨nm,kind,flds,words⟩:=d
    simp only[Def.cells] at hat
    simp[h3,h9,h11,hB1,hn,hg,c,hlen,hfit,hat]
    cases ha:atD acc nm with
    | none =>
      have hi0:idxK (ksD acc) nm=some none:=by rw[idx_ks,ha]
      refine⟨_,lookS_none (e:=29) (z:=.ag [.d (dS noS), .d (dI 0), .fl [] 0, .fl [] 0]) (by kernel_rfl) hi0 (by kernel_rfl),?_⟩
      simp[h3,h9,h10,h11,hB1,hn,hg,w]
      simp only[schGo,ha] at hp
      exact⟨_,updK_none hi0,⟨i+1,hi2,by omega,acc++[⟨nm,kind,flds,words⟩],by rw[ksD_snoc,vsD_snoc];rfl,hp⟩,upTo_lt h11 (by simp) hi2⟩
    | some j =>
      have hj:=atD_lt ha
      have hi0:idxK (ksD acc) nm=some (some j):=by rw[idx_ks,ha]
      refine⟨_,lookS_at (e:=29) (by kernel_rfl) hi0 (List.getElem?_eq_getElem (by simpa using hj)),?_⟩
      simp[h3,h9,h10,h11,hB1,hn,w]
      simp only[schGo,ha] at hp
      have hv:(vsD acc)[j]'(by simpa using hj)=.ag (acc[j].cells.map .d):=by simp[vsD]
      exact⟨⟨by rw[hv];rfl,by rw[hv];rfl⟩,⟨i+1,hi2,by omega,acc,⟨rfl,rfl⟩,hp⟩,upTo_lt h11 (by simp) hi2⟩
  · rw[List.drop_eq_nil_of_le (by omega),schGo] at hp
    subst hp
    simp[h3,hB1,hn,c]
    exact frz_vs _ _ _
theorem all_seen {l:List Def}{p:Def→Bool}{seen:List Nat} (h:∀ j∈seen,∀ (hj:j<l.length),p l[j]=true) (hall:∀ j,j<l.length→j∈seen):l.all p=true :=
  List.all_eq_true.2 fun d hd=>by
    obtain⟨j,hj,rfl⟩:=List.getElem_of_mem hd
    exact h j (hall j hj) hj
def walkMu (n:Nat) (E:Env) (S:St):Nat:=match E 8 with
  | some (.iv b)=>(match S.B b with | some [.ic _ _ seen]=>((List.range n).filter fun j=>!seen.contains j).length | _=>0)
  | _=>0
theorem walkMu_lt {n b j:Nat}{E E':Env}{S S':St}{ks vs:List D}{seen:List Nat} (h:E 8=some (.iv b)) (hB:S.B b=some [.ic ks vs seen]) (h':E' 8=some (.iv b)) (hB':S'.B b=some [.ic ks vs (seen++[j])]) (hj:j<n) (hn:j∉seen):walkMu n E' S'<walkMu n E S:=by
  unfold walkMu
  rw[h,h']
  simp only[hB,hB']
  have e:((List.range n).filter fun k=>!(seen++[j]).contains k)=((List.range n).filter fun k=>!seen.contains k).filter fun k=>!(k == j):=by
    rw[List.filter_filter]
    congr 1
    funext k
    by_cases c:k=j<;>simp[c]
  rw[e]
  have hm:j∈(List.range n).filter fun k=>!seen.contains k:=by simp[hj,hn]
  have:=List.length_filter_lt_length_iff_exists (p:=fun k=>!(k == j)) (l:=(List.range n).filter fun k=>!seen.contains k)
  exact this.2 ⟨j,hm,by simp⟩
set_option maxHeartbeats 2000000 in
theorem p_eachDef (l:List Def) (f:FuncId) (caps:List D) (p:Def→Bool) (h:∀ d∈l,PCall Tryz.prog gl f (d.d::caps) (dB (p d))):PCall Tryz.prog gl 105 [schD l, .fn (.func f) [] caps] (dB (l.all p)):=by
  refine PCall.by_ (md:=[]) Tryz.func105 rfl (by kernel_rfl) (n:=17) Tryz.ntmps105 (by simp) (by decide) rfl ?_
  simp
  refine LoopT.round (fun E S=>∃ (seen:List Nat),E 1=some (.d (.fn (.func f) [] caps))∧E 8=some (.iv 2)∧S.B 2=some ([.ic (ksD l) (l.map Def.d) seen])∧(∀ j∈seen,∀ (hj:j<l.length),p l[j]=true)) (walkMu l.length) ⟨[],by simp⟩ ?_
  rintro E S hk ⟨seen,h1,h8,hB2,hp⟩
  have hn:S.n=17:=by first | (simpa using hk.n)|(have hh:=hk.n;simp at hh;exact hh)
  have hg:S.gl=gl:=by first | (simpa using hk.gl)|(have hh:=hk.gl;simp at hh;exact hh)
  have hmd:S.md=[]:=by first | (simpa using hk.md)|(have hh:=hk.md;simp at hh;exact hh)
  simp[h8,hB2,hn]
  refine nextV.mk (fun j hk1 hv1 hj=>?_) (fun hall=>?_)
  · have hj2:j<l.length:=by simpa using hk1
    have kj:(ksD l)[j]?=some (dS l[j].name):=by simp[ksD,hj2]
    have lj:l[j]?=some l[j]:=List.getElem?_eq_getElem hj2
    simp[h1,h8,hn,kj,lj,dcells_len]
    have hd:=h _ (List.getElem_mem hj2)
    repeat refine⟨DrawT.mk (by kernel_rfl),?_⟩
    refine CallT.p0 (hd) (by first | rfl | (simp;done)|(simp[hg];done)) (by first | rfl | (simp;done)|(simp;rfl)|(simp[h1,h8,hB2,hn,hg,hmd,kj,lj,dcells_len];done)) ?_
    simp[hn]
    refine BrT.mk (fun c=>?_) (fun c=>?_)
    case refine_2=>(have hq:l.all p=false:=all_bad hj2 c;simp only[hq];simp[hn,c])
    simp[h1,h8,c]
    refine⟨fun k hk2 hk3=>?_,walkMu_lt h8 hB2 (by simp[h8]) (by first | (simp;done)|(((try simp);(repeat first | rw[if_neg (by omega)] | rw[if_pos (by omega)]);(try (intro h;exfalso;omega));(try (intro _;(repeat first | rw[if_neg (by omega)] | rw[if_pos (by omega)]))));done)) hj2 hj⟩
    rcases hk2 with h1 | rfl
    · exact hp k h1 hk3
    · exact c
  · simp[hn]
    exact List.all_eq_true.1 (all_seen hp (by simpa using hall))
def zeroDef:Def:=⟨noS,0,[],[]⟩
def defL (l:List Def) (s:ByteArray):Def:=match atD l s with | some j=>l.getD j zeroDef | none=>zeroDef
def kindL (l:List Def) (s:ByteArray):Int:=(defL l s).kind
theorem defL_none {l:List Def}{s:ByteArray} (h:atD l s=none):defL l s=zeroDef:=by unfold defL;rw[h]
theorem defL_some {l:List Def}{s:ByteArray}{j:Nat} (h:atD l s=some j):defL l s=l[j]'(atD_lt h):=by
  unfold defL;rw[h]
  simp[List.getD_eq_getElem?_getD,atD_lt h]
theorem look_some {l:List Def}{s:ByteArray}{j:Nat}{ok:Bool} (h:atD l s=some j):lookS Tryz.prog 72 (ksD l) (l.map (SV.d∘Def.d)) s ok=some (if ok then .tu [.d (defL l s).d, .d (.v (.bool true))] else .d (defL l s).d):=by
  rw[defL_some h]
  exact lookS_at (e:=29) (by kernel_rfl) (by rw[idx_ks,h]) (by simp[atD_lt h])
theorem look_none {l:List Def}{s:ByteArray}{ok:Bool} (h:atD l s=none):lookS Tryz.prog 72 (ksD l) (l.map (SV.d∘Def.d)) s ok=some (if ok then .tu [.ag [.d (dS noS), .d (dI 0), .fl [] 0, .fl [] 0], .d (.v (.bool false))] else .ag [.d (dS noS), .d (dI 0), .fl [] 0, .fl [] 0]) :=
  lookS_none (e:=29) (by kernel_rfl) (by rw[idx_ks,h]) (by kernel_rfl)
@[simp] theorem dcells_kind (d:Def):d.cells[1]?=some (dI d.kind):=rfl
set_option maxHeartbeats 2000000 in
theorem p_isObject (l:List Def) (s:ByteArray):PCall Tryz.prog gl 110 [schD l,dS s] (dB (decide (kindL l s=1))):=by
  refine PCall.by_ (md:=[]) Tryz.func110 rfl (by kernel_rfl) (n:=10) Tryz.ntmps110 (by simp) (by decide) rfl ?_
  simp
  cases h:atD l s with
  | none =>
    refine⟨_,look_none h,?_⟩
    simp[kindL,defL_none h,zeroDef]
  | some j =>
    refine⟨_,look_some h,?_⟩
    simp[kindL]
    rfl
set_option maxHeartbeats 2000000 in
theorem p_isThere (l:List Def) (s:ByteArray):PCall Tryz.prog gl 107 [schD l,dS s] (dB ((atD l s).isSome || groundB s)):=by
  refine PCall.by_ (md:=[]) Tryz.func107 rfl (by kernel_rfl) (n:=18) Tryz.ntmps107 (by simp) (by decide) rfl ?_
  simp
  cases h:atD l s with
  | none =>
    refine⟨_,look_none h,?_⟩
    simp
    repeat refine⟨DrawT.mk (by kernel_rfl),?_⟩
    refine CallT.p0 (p_isGround s) (by first | rfl | (simp;done)|(simp;done)) (by first | rfl | (simp;done)|(simp;rfl)|(simp;done)) ?_
    simp
  | some j =>
    refine⟨_,look_some h,?_⟩
    simp[dcells_len]
def givenB (l:List Def) (s:ByteArray):Bool:=groundB s || decide (kindL l s=2) || decide (kindL l s=3)
def outB (l:List Def) (s:ByteArray):Bool:=groundB s || decide (kindL l s=2) || decide (kindL l s=1) || decide (kindL l s=4)
set_option maxHeartbeats 2000000 in
theorem p_isGivenIn (l:List Def) (s:ByteArray):PCall Tryz.prog gl 62 [schD l,dS s] (dB (givenB l s)):=by
  have main:∀ r z,lookS Tryz.prog 72 (ksD l) (l.map (SV.d∘Def.d)) s false=some r→fieldE Tryz.prog (some r) (some (3,1))=some (.d (dI z), .no)→z=kindL l s→PCall Tryz.prog gl 62 [schD l,dS s] (dB (givenB l s)):=fun r z h1 h2 h3=>by
    refine PCall.by_ (md:=[]) Tryz.func62 rfl (by kernel_rfl) (n:=20) Tryz.ntmps62 (by simp) (by decide) rfl ?_
    simp
    refine⟨r,h1,?_⟩
    simp[h2,givenB, ← h3]
    repeat refine⟨DrawT.mk (by kernel_rfl),?_⟩
    refine CallT.p0 (p_isGround s) (by first | rfl | (simp;done)|(simp[h2,givenB, ← h3];done)) (by first | rfl | (simp;done)|(simp;rfl)|(simp[h2,givenB, ← h3];done)) ?_
    simp
    refine BrT.mk (fun g=>?_) (fun g=>?_)
    case refine_1=>simp[g]
    simp[g]
    refine BrT.dec (fun k2=>?_) (fun k2=>?_)
    case refine_1=>simp[k2]
    simp[k2]
  cases h:atD l s with
  | none=>exact main _ 0 (look_none h) (by kernel_rfl) (by rw[kindL,defL_none h];rfl)
  | some j=>exact main _ (defL l s).kind (look_some h) (by simp) rfl
set_option maxHeartbeats 2000000 in
theorem p_comesOut (l:List Def) (s:ByteArray):PCall Tryz.prog gl 109 [schD l,dS s] (dB (outB l s)):=by
  have main:∀ r z,lookS Tryz.prog 72 (ksD l) (l.map (SV.d∘Def.d)) s false=some r→fieldE Tryz.prog (some r) (some (3,1))=some (.d (dI z), .no)→z=kindL l s→PCall Tryz.prog gl 109 [schD l,dS s] (dB (outB l s)):=fun r z h1 h2 h3=>by
    refine PCall.by_ (md:=[]) Tryz.func109 rfl (by kernel_rfl) (n:=24) Tryz.ntmps109 (by simp) (by decide) rfl ?_
    simp
    refine⟨r,h1,?_⟩
    simp[h2,outB, ← h3]
    repeat refine⟨DrawT.mk (by kernel_rfl),?_⟩
    refine CallT.p0 (p_isGround s) (by first | rfl | (simp;done)|(simp[h2,outB, ← h3];done)) (by first | rfl | (simp;done)|(simp;rfl)|(simp[h2,outB, ← h3];done)) ?_
    simp
    refine BrT.mk (fun g=>?_) (fun g=>?_)
    case refine_1=>simp[g]
    simp[g]
    refine BrT.dec (fun k2=>?_) (fun k2=>?_)
    case refine_1=>simp[k2]
    simp[k2]
    refine BrT.dec (fun k1=>?_) (fun k1=>?_)
    case refine_1=>simp[k1]
    simp[k1]
  cases h:atD l s with
  | none=>exact main _ 0 (look_none h) (by kernel_rfl) (by rw[kindL,defL_none h];rfl)
  | some j=>exact main _ (defL l s).kind (look_some h) (by simp) rfl
theorem baseT_name {t:ByteArray}{l:List Typ}{b:Bool} (h:t≠noS):baseT (.mk t l b)=t:=by unfold baseT;rw[if_neg h]
theorem baseT_of {x:Typ}{r:List Typ}{b:Bool}:baseT (.mk noS (x::r) b)=baseT x:=by rw[baseT,if_pos rfl]
set_option maxHeartbeats 2000000 in
theorem p_baseOf (v:Typ) (d:Nat) (hv:typB v d=true):PCall Tryz.prog gl 63 [v.d] (dS (baseT v)):=by
  cases hv0:v with
  | mk t0 l0 b0 =>
  refine PCall.by_ (md:=[]) Tryz.func63 rfl (by kernel_rfl) (n:=12) Tryz.ntmps63 (by simp) (by decide) rfl ?_
  simp[Typ.cells]
  refine LoopT.round (fun E S=>∃ (t:ByteArray) (l:List Typ) (b:Bool) (e:Nat),E 1=some (.op 0 0)∧S.B 0=some ([.d (dS t), .d (typsD l), .d (dB b)])∧(baseT (.mk t l b)=baseT (.mk t0 l0 b0))∧(typB (.mk t l b) e=true)∧(1≤S.nx)) (fun E S=>match S.B 0 with | some [_, .d (.ps cs _),_]=>SizeOf.sizeOf cs | _=>0) ⟨t0,l0,b0,d,by simp;rw[← hv0];exact hv⟩ ?_
  rintro E S hk ⟨t,l,b,e,h1,hB0,hb,hd,hx⟩
  have hn:S.n=12:=by first | (simpa using hk.n)|(have hh:=hk.n;simp[Typ.cells] at hh;exact hh)
  have hg:S.gl=gl:=by first | (simpa using hk.gl)|(have hh:=hk.gl;simp[Typ.cells] at hh;exact hh)
  have hmd:S.md=[]:=by first | (simpa using hk.md)|(have hh:=hk.md;simp[Typ.cells] at hh;exact hh)
  simp[h1,hB0,hn]
  refine BrT.dec (fun c=>?_) (fun c=>?_)
  · subst c
    cases e with
    | zero=>simp[typB] at hd
    | succ e =>
      unfold typB at hd
      rw[if_pos rfl] at hd
      match l,hd with
      | [x],hd =>
        simp only at hd
        cases hx2:x with
        | mk t2 l2 b2 =>
        rw[hx2] at hd
        rw[hx2,baseT_of] at hb
        subst hx2
        simp[h1,hB0,hn,Typ.cells,typsCells]
        refine⟨⟨t2,l2,?_⟩,by omega⟩
        cases b2 with
        | false=>exact .inl ⟨⟨rfl,⟨rfl,rfl⟩,rfl⟩,hb,e,hd⟩
        | true=>exact .inr ⟨⟨rfl,⟨rfl,rfl⟩,rfl⟩,hb,e,hd⟩
      | [],hd=>simp at hd
      | x::y::r,hd=>simp at hd
  · simp[h1,hB0,hn,c]
    rw[← hb,baseT_name c]
def hereB (l:List Def) (s:ByteArray):Bool:=(atD l s).isSome || groundB s
theorem p_hereB (l:List Def) (s:ByteArray):PCall Tryz.prog gl 107 [schD l,dS s] (dB (hereB l s)):=p_isThere l s
def fldHere (l:List Def) (f:Fld):Bool:=hereB l (baseT f.ty)&&f.args.all fun a=>hereB l (baseT a.ty)
def wordHere (l:List Def) (d:Def) (w:ByteArray):Bool:=!(decide (d.kind=4) && !hereB l w)
def defHere (l:List Def) (d:Def):Bool:=d.flds.all (fldHere l)&&d.words.all (wordHere l d)
theorem fld_of {d:Def} (h:defB d=true):∀ f∈d.flds,typB f.ty 3=true∧∀ a∈f.args,argB a=true:=by
  intro f hf
  unfold defB at h
  rw[Bool.and_eq_true] at h
  have h:=h.2
  have one:∀ b,fldsB b d.flds=true→typB f.ty 3=true∧∀ a∈f.args,argB a=true:=by
    intro b h
    unfold fldsB at h
    have h2:=List.all_eq_true.1 (show d.flds.all (fldB b)=true by
      revert h;cases d.flds.all (fldB b)<;>simp) f hf
    unfold fldB at h2
    simp only[Bool.and_eq_true] at h2
    refine⟨h2.1.1,?_⟩
    have h3:=h2.1.2
    unfold argsB at h3
    intro a ha
    have h4:f.args.all argB=true:=by revert h3;cases f.args.all argB<;>simp
    exact List.all_eq_true.1 h4 a ha
  split at h
  · rw[Bool.and_eq_true] at h;exact one _ h.2
  · split at h
    · rw[Bool.and_eq_true] at h
      have:d.flds=[]:=List.eq_nil_of_length_eq_zero (by simpa using h.1)
      rw[this] at hf;cases hf
    · cases h
theorem typ_of {a:Arg} (h:argB a=true):typB a.ty 3=true:=by
  unfold argB at h
  revert h;cases typB a.ty 3<;>simp
set_option maxHeartbeats 4000000 in
theorem p_here1 (l:List Def) (d:Def) (hok:DefOk d) (hd:defB d=true):PCall Tryz.prog gl 106 [d.d, .pp [schD l] 0] (dB (defHere l d)):=by
  refine PCall.by_ (md:=[]) Tryz.func106 rfl (by kernel_rfl) (n:=55) Tryz.ntmps106 (by simp) (by decide) rfl ?_
  simp[Def.cells]
  have hfl:=hok.2.1.1
  have hwl:=hok.2.2.1
  refine LoopT.round (fun E S=>∃ (i:Nat),(i≤d.flds.length)∧E 1=some (.d (.pp [schD l] 0))∧E 2=some (.op 0 0)∧E 11=some (.d (fldsD d.flds))∧E 12=some (.d (dI d.flds.length))∧E 13=some (.d (dI i))∧S.B 0=some ([.d (dS d.name), .d (dI d.kind), .d (fldsD d.flds), .d (namesD d.words)])∧(allUp (fldHere l) d.flds i)∧(1≤S.nx)) (upTo 13 d.flds.length) ⟨0,by simp;exact allUp_zero _ _⟩ ?_
  rintro E S hk ⟨i,hi,h1,h2,h11,h12,h13,hB0,hp,hx⟩
  have hn:S.n=55:=by first | (simpa using hk.n)|(have hh:=hk.n;simp[Def.cells] at hh;exact hh)
  have hg:S.gl=gl:=by first | (simpa using hk.gl)|(have hh:=hk.gl;simp[Def.cells] at hh;exact hh)
  have hmd:S.md=[]:=by first | (simpa using hk.md)|(have hh:=hk.md;simp[Def.cells] at hh;exact hh)
  simp[h12,h13,hn,hg]
  have w:=wrap64 (n:=(i:Int)+1) (by omega) (by omega)
  refine BrT.dec (fun c=>?_) (fun c=>?_)
  · have hi2:i<d.flds.length:=by omega
    have hlen:=flds_len d.flds
    have hfit:i*5+5≤d.flds.length*5:=by omega
    have hN:=fld_of hd _ (List.getElem_mem hi2)
    have hO:=hok.2.1.2 _ (List.getElem_mem hi2)
    have bad:fldHere l d.flds[i]=false→defHere l d=false:=fun h=>by unfold defHere;rw[all_bad hi2 h];rfl
    have good:=all_take (p:=fldHere l) hi2 hp
    have hat:=flds_at d.flds hi2
    generalize hav:d.flds[i]=a at hN hO bad good hat
    have hab:fldHere l a=(hereB l (baseT a.ty)&&a.args.all fun a=>hereB l (baseT a.ty)):=rfl
    have hT:=p_baseOf (gl:=gl) a.ty 3 hN.1
    obtain⟨nm,args,ty⟩:=a
    obtain⟨hN1,hN2⟩:=hN
    have hal:=hO.2.1.1
    simp only at hN1 hN2 hal hab
    cases ty with
    | mk t lt b =>
    simp only[Fld.cells,Typ.cells] at hat
    simp[h1,h11,h13,hn,c,hlen,hfit,hat]
    repeat refine⟨DrawT.mk (by kernel_rfl),?_⟩
    refine CallT.p0 (hT) (by first | rfl | (simp;done)|(simp[hg];done)) (by first | rfl | (simp;done)|(simp;rfl)|(simp[Def.cells,h1,h2,h11,h12,h13,hB0,hn,hg,hmd,c,hi2,w,hlen,hfit,hat];done)) ?_
    simp[hn]
    repeat refine⟨DrawT.mk (by kernel_rfl),?_⟩
    refine CallT.p0 (p_hereB l (baseT (.mk t lt b))) (by first | rfl | (simp;done)|(simp[Def.cells,h1,h2,h11,h12,h13,hB0,hn,hg,hmd,c,hi2,w,hlen,hfit,hat];done)) (by first | rfl | (simp;done)|(simp;rfl)|(simp[Def.cells,h1,h2,h11,h12,h13,hB0,hn,hg,hmd,c,hi2,w,hlen,hfit,hat];done)) ?_
    simp[hn]
    refine BrT.mk (fun c1=>?_) (fun c1=>?_)
    case refine_2=>(have hq:=bad (by rw[hab,c1];rfl);simp[hn,c1,hq])
    simp[hn,c1]
    have o13:=h13
    refine LoopT.round (fun E S=>∃ (k:Nat),(k≤args.length)∧E 1=some (.d (.pp [schD l] 0))∧E 2=some (.op 0 0)∧E 11=some (.d (fldsD d.flds))∧E 12=some (.d (dI d.flds.length))∧E 13=some (.d (dI i))∧E 24=some (.d (argsD args))∧E 25=some (.d (dI args.length))∧E 26=some (.d (dI k))∧S.B 0=some ([.d (dS d.name), .d (dI d.kind), .d (fldsD d.flds), .d (namesD d.words)])∧(allUp (fun a:Arg=>hereB l (baseT a.ty)) args k)∧(1≤S.nx)) (upTo 26 args.length) ⟨0,by simp[h1,h2,h11,h12,h13,hB0];exact allUp_zero _ _⟩ ?_
    rintro E S hk ⟨k,hkl,h1,h2,h11,h12,h13,h24,h25,h26,hB0,hp2,hx⟩
    have hn:S.n=55:=by first | (simpa using hk.n)|(have hh:=hk.n;simp[hn] at hh;exact hh)
    have hg:S.gl=gl:=by first | (simpa using hk.gl)|(have hh:=hk.gl;simp[hg] at hh;exact hh)
    have hmd:S.md=[]:=by first | (simpa using hk.md)|(have hh:=hk.md;simp[hmd] at hh;exact hh)
    simp[h25,h26,hn,hg]
    have w2:=wrap64 (n:=(k:Int)+1) (by omega) (by omega)
    refine BrT.dec (fun c2=>?_) (fun c2=>?_)
    · have hk2:k<args.length:=by omega
      have alen:=args_len args
      have afit:k*10+10≤args.length*10:=by omega
      have bad2:=all_bad (p:=fun a:Arg=>hereB l (baseT a.ty)) hk2
      have good2:=all_take (p:=fun a:Arg=>hereB l (baseT a.ty)) hk2 hp2
      have aat:=args_at args hk2
      have hA:=typ_of (hN2 _ (List.getElem_mem hk2))
      generalize args[k]=x at bad2 good2 aat hA
      have hT2:=p_baseOf (gl:=gl) x.ty 3 hA
      obtain⟨xn,xt,xh,xe⟩:=x
      simp only at bad2 good2 hT2
      cases xt with
      | mk t2 l2 b2 =>
      cases xe with
      | mk =>
      simp only[Arg.cells,Typ.cells,Val.cells] at aat
      simp[h1,h24,h26,hn,c2,alen,afit,aat]
      repeat refine⟨DrawT.mk (by kernel_rfl),?_⟩
      refine CallT.p0 (hT2) (by first | rfl | (simp;done)|(simp[hg];done)) (by first | rfl | (simp;done)|(simp;rfl)|(simp[Def.cells,h1,h2,h11,h12,h13,hB0,hn,hg,hmd,c,hi2,w,hlen,hfit,hat,c1,h1,h2,h11,h12,h13,h24,h25,h26,hB0,hn,hg,hmd,c2,hk2,w2,alen,afit,aat];done)) ?_
      simp[hn]
      repeat refine⟨DrawT.mk (by kernel_rfl),?_⟩
      refine CallT.p0 (p_hereB l (baseT (.mk t2 l2 b2))) (by first | rfl | (simp;done)|(simp[Def.cells,h1,h2,h11,h12,h13,hB0,hn,hg,hmd,c,hi2,w,hlen,hfit,hat,c1,h1,h2,h11,h12,h13,h24,h25,h26,hB0,hn,hg,hmd,c2,hk2,w2,alen,afit,aat];done)) (by first | rfl | (simp;done)|(simp;rfl)|(simp[Def.cells,h1,h2,h11,h12,h13,hB0,hn,hg,hmd,c,hi2,w,hlen,hfit,hat,c1,h1,h2,h11,h12,h13,h24,h25,h26,hB0,hn,hg,hmd,c2,hk2,w2,alen,afit,aat];done)) ?_
      simp[hn]
      refine BrT.mk (fun c3=>?_) (fun c3=>?_)
      case refine_2=>(have hq:=bad (by rw[hab,bad2 c3,Bool.and_false]);simp[hn,c3,hq])
      simp[h1,h2,h11,h12,h13,h24,h25,h26,hB0,hn,w2,c3]
      exact⟨⟨k+1,hk2,by omega,good2 c3⟩,upTo_lt h26 (by simp) hk2⟩
    · have hk3:k=args.length:=by omega
      subst hk3
      have hq:=good (by rw[hab,c1,allUp_all hp2];rfl)
      simp[w,h1,h2,h11,h12,h13,hB0,hn,c2]
      exact⟨⟨i+1,hi2,by omega,hq⟩,upTo_lt o13 (by simp) hi2⟩
  · have hi3:i=d.flds.length:=by omega
    subst hi3
    have hF:=allUp_all hp
    simp[h2,hB0,hn,c]
    refine LoopT.round (fun E S=>∃ (k:Nat),(k≤d.words.length)∧E 1=some (.d (.pp [schD l] 0))∧E 2=some (.op 0 0)∧E 39=some (.d (namesD d.words))∧E 40=some (.d (dI d.words.length))∧E 41=some (.d (dI k))∧S.B 0=some ([.d (dS d.name), .d (dI d.kind), .d (fldsD d.flds), .d (namesD d.words)])∧(allUp (wordHere l d) d.words k)∧(1≤S.nx)) (upTo 41 d.words.length) ⟨0,by simp[h1,h2,hB0];exact allUp_zero _ _⟩ ?_
    rintro E S hk ⟨k,hkl,h1,h2,h39,h40,h41,hB0,hp2,hx⟩
    have hn:S.n=55:=by first | (simpa using hk.n)|(have hh:=hk.n;simp[hn] at hh;exact hh)
    have hg:S.gl=gl:=by first | (simpa using hk.gl)|(have hh:=hk.gl;simp[hg] at hh;exact hh)
    have hmd:S.md=[]:=by first | (simpa using hk.md)|(have hh:=hk.md;simp[hmd] at hh;exact hh)
    simp[h40,h41,hn,hg]
    have w2:=wrap64 (n:=(k:Int)+1) (by omega) (by omega)
    refine BrT.dec (fun c2=>?_) (fun c2=>?_)
    · have hk2:k<d.words.length:=by omega
      have bad2:=all_bad (p:=wordHere l d) hk2
      have good2:=all_take (p:=wordHere l d) hk2 hp2
      simp[h2,h39,h41,hB0,hn,c2]
      have hH:=p_hereB (gl:=gl) l (d.words[k])
      refine BrT.dec (fun k4=>?_) (fun k4=>?_)
      · simp[h1,hn,k4]
        repeat refine⟨DrawT.mk (by kernel_rfl),?_⟩
        refine CallT.p0 (hH) (by first | rfl | (simp;done)|(simp[hg];done)) (by first | rfl | (simp;done)|(simp;rfl)|(simp[Def.cells,h1,h2,h11,h12,h13,hB0,hn,hg,hmd,c,h1,h2,h39,h40,h41,hB0,hn,hg,hmd,c2,hk2,w2,k4];done)) ?_
        simp[hn]
        refine BrT.mk (fun c3=>?_) (fun c3=>?_)
        case refine_2=>(have hb:defHere l d=false:=(by unfold defHere;rw[bad2 (by simp[wordHere,k4,c3]),Bool.and_false]);simp[hn,c3,hb])
        simp[h1,h2,h39,h40,h41,hB0,hn,w2,k4,c3]
        exact⟨⟨k+1,hk2,by omega,good2 (by simp[wordHere,k4,c3])⟩,upTo_lt h41 (by simp) hk2⟩
      · simp[h1,h2,h39,h40,h41,hB0,hn,w2,k4]
        exact⟨⟨k+1,hk2,by omega,good2 (by simp[wordHere,k4])⟩,upTo_lt h41 (by simp) hk2⟩
    · have hk3:k=d.words.length:=by omega
      subst hk3
      have hb:defHere l d=true:=by unfold defHere;rw[hF,allUp_all hp2];rfl
      simp[hn,c2,hb]
set_option maxHeartbeats 2000000 in
theorem p_allThere (l:List Def) (hok:∀ d∈l,DefOk d) (hd:∀ d∈l,defB d=true):PCall Tryz.prog gl 48 [schD l] (dB (l.all (defHere l))):=by
  have h:=p_eachDef (gl:=gl) l 106 [.pp [schD l] 0] (defHere l) fun d hm=>p_here1 l d (hok d hm) (hd d hm)
  refine PCall.by_ (md:=[]) Tryz.func48 rfl (by kernel_rfl) (n:=6) Tryz.ntmps48 (by simp) (by decide) rfl ?_
  simp
  refine CallT.l (LCall.ofP (k:=9) h (by simp)) rfl ?_
  simp
def placeB (l:List Def) (kind:Int) (s:ByteArray):Bool:=!(decide (kind=3) && !givenB l s || decide (kind=1) && !outB l s)
def fldPlaced (l:List Def) (d:Def) (f:Fld):Bool:=placeB l d.kind (baseT f.ty)&&f.args.all fun a=>givenB l (baseT a.ty)
def wordPlaced (l:List Def) (d:Def) (w:ByteArray):Bool:=!(decide (d.kind=4) && !decide (kindL l w=1))
def defPlaced (l:List Def) (d:Def):Bool:=d.flds.all (fldPlaced l d)&&d.words.all (wordPlaced l d)
set_option maxHeartbeats 4000000 in
theorem p_placed1 (l:List Def) (d:Def) (hok:DefOk d) (hd:defB d=true):PCall Tryz.prog gl 108 [d.d, .pp [schD l] 0] (dB (defPlaced l d)):=by
  refine PCall.by_ (md:=[]) Tryz.func108 rfl (by kernel_rfl) (n:=73) Tryz.ntmps108 (by simp) (by decide) rfl ?_
  simp[Def.cells]
  have hfl:=hok.2.1.1
  have hwl:=hok.2.2.1
  refine LoopT.round (fun E S=>∃ (i:Nat),(i≤d.flds.length)∧E 1=some (.d (.pp [schD l] 0))∧E 2=some (.op 0 0)∧E 12=some (.d (fldsD d.flds))∧E 13=some (.d (dI d.flds.length))∧E 14=some (.d (dI i))∧S.B 0=some ([.d (dS d.name), .d (dI d.kind), .d (fldsD d.flds), .d (namesD d.words)])∧(allUp (fldPlaced l d) d.flds i)∧(1≤S.nx)) (upTo 14 d.flds.length) ⟨0,by simp;exact allUp_zero _ _⟩ ?_
  rintro E S hk ⟨i,hi,h1,h2,h12,h13,h14,hB0,hp,hx⟩
  have hn:S.n=73:=by first | (simpa using hk.n)|(have hh:=hk.n;simp[Def.cells] at hh;exact hh)
  have hg:S.gl=gl:=by first | (simpa using hk.gl)|(have hh:=hk.gl;simp[Def.cells] at hh;exact hh)
  have hmd:S.md=[]:=by first | (simpa using hk.md)|(have hh:=hk.md;simp[Def.cells] at hh;exact hh)
  simp[h13,h14,hn,hg]
  have w:=wrap64 (n:=(i:Int)+1) (by omega) (by omega)
  refine BrT.dec (fun c=>?_) (fun c=>?_)
  · have hi2:i<d.flds.length:=by omega
    have hlen:=flds_len d.flds
    have hfit:i*5+5≤d.flds.length*5:=by omega
    have hN:=fld_of hd _ (List.getElem_mem hi2)
    have hO:=hok.2.1.2 _ (List.getElem_mem hi2)
    have bad:fldPlaced l d d.flds[i]=false→defPlaced l d=false:=fun h=>by unfold defPlaced;rw[all_bad hi2 h];rfl
    have good:=all_take (p:=fldPlaced l d) hi2 hp
    have hat:=flds_at d.flds hi2
    generalize hav:d.flds[i]=a at hN hO bad good hat
    have hab:fldPlaced l d a=(placeB l d.kind (baseT a.ty)&&a.args.all fun a=>givenB l (baseT a.ty)):=rfl
    have hT:=p_baseOf (gl:=gl) a.ty 3 hN.1
    obtain⟨nm,args,ty⟩:=a
    obtain⟨hN1,hN2⟩:=hN
    have hal:=hO.2.1.1
    simp only at hN1 hN2 hal hab
    cases ty with
    | mk t lt b =>
    simp only[Fld.cells,Typ.cells] at hat
    simp[h12,h14,hn,c,hlen,hfit,hat]
    repeat refine⟨DrawT.mk (by kernel_rfl),?_⟩
    refine CallT.p0 (hT) (by first | rfl | (simp;done)|(simp[hg];done)) (by first | rfl | (simp;done)|(simp;rfl)|(simp[Def.cells,h1,h2,h12,h13,h14,hB0,hn,hg,hmd,c,hi2,w,hlen,hfit,hat];done)) ?_
    simp[h2,hB0,hn]
    have hP:placeB l d.kind (baseT (.mk t lt b))=false→defPlaced l d=false:=fun h=>bad (by rw[hab,h];rfl)
    refine BrT.dec (fun k3=>?_) (fun k3=>?_)
    case' refine_1 =>
      simp[h1,hn,k3]
      repeat refine⟨DrawT.mk (by kernel_rfl),?_⟩
      refine CallT.p0 (p_isGivenIn l (baseT (.mk t lt b))) (by first | rfl | (simp;done)|(simp[Def.cells,h1,h2,h12,h13,h14,hB0,hn,hg,hmd,c,hi2,w,hlen,hfit,hat,k3];done)) (by first | rfl | (simp;done)|(simp;rfl)|(simp[Def.cells,h1,h2,h12,h13,h14,hB0,hn,hg,hmd,c,hi2,w,hlen,hfit,hat,k3];done)) ?_
      simp[hn]
      refine BrT.mk (fun c0=>?_) (fun c0=>?_)
      case refine_2=>(have hq:=hP (by simp[placeB,k3,c0]);simp[hn,c0,hq])
      have c1:placeB l d.kind (baseT (.mk t lt b))=true:=by simp[placeB,k3,c0]
      simp[h2,hB0,hn,k3,c0]
    case' refine_2 =>
      simp[h2,hB0,hn,k3]
      refine BrT.dec (fun k1=>?_) (fun k1=>?_)
      case' refine_1 =>
        simp[h1,hn,k1]
        repeat refine⟨DrawT.mk (by kernel_rfl),?_⟩
        refine CallT.p0 (p_comesOut l (baseT (.mk t lt b))) (by first | rfl | (simp;done)|(simp[Def.cells,h1,h2,h12,h13,h14,hB0,hn,hg,hmd,c,hi2,w,hlen,hfit,hat,k3,k1];done)) (by first | rfl | (simp;done)|(simp;rfl)|(simp[Def.cells,h1,h2,h12,h13,h14,hB0,hn,hg,hmd,c,hi2,w,hlen,hfit,hat,k3,k1];done)) ?_
        simp[hn]
        refine BrT.mk (fun c0=>?_) (fun c0=>?_)
        case refine_2=>(have hq:=hP (by simp[placeB,k1,c0]);simp[hn,c0,hq])
        have c1:placeB l d.kind (baseT (.mk t lt b))=true:=by simp[placeB,k1,c0]
        simp[hn,c0]
      case' refine_2 =>
        have c1:placeB l d.kind (baseT (.mk t lt b))=true:=by simp[placeB,k1,k3]
        simp[hn,k1]
    all_goals
      have o14:=h14
      refine LoopT.round (fun E S=>∃ (k:Nat),(k≤args.length)∧E 1=some (.d (.pp [schD l] 0))∧E 2=some (.op 0 0)∧E 12=some (.d (fldsD d.flds))∧E 13=some (.d (dI d.flds.length))∧E 14=some (.d (dI i))∧E 42=some (.d (argsD args))∧E 43=some (.d (dI args.length))∧E 44=some (.d (dI k))∧S.B 0=some ([.d (dS d.name), .d (dI d.kind), .d (fldsD d.flds), .d (namesD d.words)])∧(allUp (fun a:Arg=>givenB l (baseT a.ty)) args k)∧(1≤S.nx)) (upTo 44 args.length) ⟨0,by simp[h1,h2,h12,h13,h14,hB0,k3];exact allUp_zero _ _⟩ ?_
      rintro E S hk ⟨k,hkl,h1,h2,h12,h13,h14,h42,h43,h44,hB0,hp2,hx⟩
      have hn:S.n=73:=by first | (simpa using hk.n)|(have hh:=hk.n;simp[hn] at hh;exact hh)
      have hg:S.gl=gl:=by first | (simpa using hk.gl)|(have hh:=hk.gl;simp[hg] at hh;exact hh)
      have hmd:S.md=[]:=by first | (simpa using hk.md)|(have hh:=hk.md;simp[hmd] at hh;exact hh)
      simp[k3,h43,h44,hn,hg]
      have w2:=wrap64 (n:=(k:Int)+1) (by omega) (by omega)
      refine BrT.dec (fun c2=>?_) (fun c2=>?_)
      · have hk2:k<args.length:=by omega
        have alen:=args_len args
        have afit:k*10+10≤args.length*10:=by omega
        have bad2:=all_bad (p:=fun a:Arg=>givenB l (baseT a.ty)) hk2
        have good2:=all_take (p:=fun a:Arg=>givenB l (baseT a.ty)) hk2 hp2
        have aat:=args_at args hk2
        have hA:=typ_of (hN2 _ (List.getElem_mem hk2))
        generalize args[k]=x at bad2 good2 aat hA
        have hT2:=p_baseOf (gl:=gl) x.ty 3 hA
        obtain⟨xn,xt,xh,xe⟩:=x
        simp only at bad2 good2 hT2
        cases xt with
        | mk t2 l2 b2 =>
        cases xe with
        | mk =>
        simp only[Arg.cells,Typ.cells,Val.cells] at aat
        simp[h1,h42,h44,hn,c2,alen,afit,aat]
        repeat refine⟨DrawT.mk (by kernel_rfl),?_⟩
        refine CallT.p0 (hT2) (by first | rfl | (simp;done)|(simp[hg];done)) (by first | rfl | (simp;done)|(simp;rfl)|(simp[Def.cells,h1,h2,h12,h13,h14,hB0,hn,hg,hmd,c,hi2,w,hlen,hfit,hat,k3,h1,h2,h12,h13,h14,h42,h43,h44,hB0,hn,hg,hmd,c2,hk2,w2,alen,afit,aat];done)) ?_
        simp[hn]
        repeat refine⟨DrawT.mk (by kernel_rfl),?_⟩
        refine CallT.p0 (p_isGivenIn l (baseT (.mk t2 l2 b2))) (by first | rfl | (simp;done)|(simp[Def.cells,h1,h2,h12,h13,h14,hB0,hn,hg,hmd,c,hi2,w,hlen,hfit,hat,k3,h1,h2,h12,h13,h14,h42,h43,h44,hB0,hn,hg,hmd,c2,hk2,w2,alen,afit,aat];done)) (by first | rfl | (simp;done)|(simp;rfl)|(simp[Def.cells,h1,h2,h12,h13,h14,hB0,hn,hg,hmd,c,hi2,w,hlen,hfit,hat,k3,h1,h2,h12,h13,h14,h42,h43,h44,hB0,hn,hg,hmd,c2,hk2,w2,alen,afit,aat];done)) ?_
        simp[hn]
        refine BrT.mk (fun c3=>?_) (fun c3=>?_)
        case refine_2=>(have hq:=bad (by rw[hab,bad2 c3,Bool.and_false]);simp[hn,c3,hq])
        simp[k3,h1,h2,h12,h13,h14,h42,h43,h44,hB0,hn,w2,c3]
        exact⟨⟨k+1,hk2,by omega,good2 c3⟩,upTo_lt h44 (by simp) hk2⟩
      · have hk3:k=args.length:=by omega
        subst hk3
        have hq:=good (by rw[hab,c1,allUp_all hp2];rfl)
        simp[w,k3,h1,h2,h12,h13,h14,hB0,hn,c2]
        refine⟨⟨i+1,hi2,by omega,?_⟩,upTo_lt o14 (by simp) hi2⟩
        first | exact hq | exact⟨k1,hq⟩ | exact⟨k3,hq⟩
  · have hi3:i=d.flds.length:=by omega
    subst hi3
    have hF:=allUp_all hp
    simp[h2,hB0,hn,c]
    refine LoopT.round (fun E S=>∃ (k:Nat),(k≤d.words.length)∧E 1=some (.d (.pp [schD l] 0))∧E 2=some (.op 0 0)∧E 57=some (.d (namesD d.words))∧E 58=some (.d (dI d.words.length))∧E 59=some (.d (dI k))∧S.B 0=some ([.d (dS d.name), .d (dI d.kind), .d (fldsD d.flds), .d (namesD d.words)])∧(allUp (wordPlaced l d) d.words k)∧(1≤S.nx)) (upTo 59 d.words.length) ⟨0,by simp[h1,h2,hB0];exact allUp_zero _ _⟩ ?_
    rintro E S hk ⟨k,hkl,h1,h2,h57,h58,h59,hB0,hp2,hx⟩
    have hn:S.n=73:=by first | (simpa using hk.n)|(have hh:=hk.n;simp[hn] at hh;exact hh)
    have hg:S.gl=gl:=by first | (simpa using hk.gl)|(have hh:=hk.gl;simp[hg] at hh;exact hh)
    have hmd:S.md=[]:=by first | (simpa using hk.md)|(have hh:=hk.md;simp[hmd] at hh;exact hh)
    simp[h58,h59,hn,hg]
    have w2:=wrap64 (n:=(k:Int)+1) (by omega) (by omega)
    refine BrT.dec (fun c2=>?_) (fun c2=>?_)
    · have hk2:k<d.words.length:=by omega
      have bad2:=all_bad (p:=wordPlaced l d) hk2
      have good2:=all_take (p:=wordPlaced l d) hk2 hp2
      simp[h2,h57,h59,hB0,hn,c2]
      have hH:=p_isObject (gl:=gl) l (d.words[k])
      refine BrT.dec (fun k4=>?_) (fun k4=>?_)
      · simp[h1,hn,k4]
        repeat refine⟨DrawT.mk (by kernel_rfl),?_⟩
        refine CallT.p0 (hH) (by first | rfl | (simp;done)|(simp[hg];done)) (by first | rfl | (simp;done)|(simp;rfl)|(simp[Def.cells,h1,h2,h12,h13,h14,hB0,hn,hg,hmd,c,h1,h2,h57,h58,h59,hB0,hn,hg,hmd,c2,hk2,w2,k4];done)) ?_
        simp[hn]
        refine BrT.mk (fun c3=>?_) (fun c3=>?_)
        case refine_2=>(have hb:defPlaced l d=false:=(by unfold defPlaced;rw[bad2 (by simp[wordPlaced,k4,c3]),Bool.and_false]);simp[hn,c3,hb])
        simp[h1,h2,h57,h58,h59,hB0,hn,w2,k4,c3]
        exact⟨⟨k+1,hk2,by omega,good2 (by simp[wordPlaced,k4,c3])⟩,upTo_lt h59 (by simp) hk2⟩
      · simp[h1,h2,h57,h58,h59,hB0,hn,w2,k4]
        exact⟨⟨k+1,hk2,by omega,good2 (by simp[wordPlaced,k4])⟩,upTo_lt h59 (by simp) hk2⟩
    · have hk3:k=d.words.length:=by omega
      subst hk3
      have hb:defPlaced l d=true:=by unfold defPlaced;rw[hF,allUp_all hp2];rfl
      simp[hn,c2,hb]
set_option maxHeartbeats 2000000 in
theorem p_allPlaced (l:List Def) (hok:∀ d∈l,DefOk d) (hd:∀ d∈l,defB d=true):PCall Tryz.prog gl 49 [schD l] (dB (l.all (defPlaced l))):=by
  have h:=p_eachDef (gl:=gl) l 108 [.pp [schD l] 0] (defPlaced l) fun d hm=>p_placed1 l d (hok d hm) (hd d hm)
  refine PCall.by_ (md:=[]) Tryz.func49 rfl (by kernel_rfl) (n:=6) Tryz.ntmps49 (by simp) (by decide) rfl ?_
  simp
  refine CallT.l (LCall.ofP (k:=9) h (by simp)) rfl ?_
  simp
abbrev queryS:ByteArray:=⟨#[81,117,101,114,121]⟩
abbrev mutS:ByteArray:=⟨#[77,117,116,97,116,105,111,110]⟩
def rootsB (l:List Def):Bool:=decide (kindL l queryS=1)&&(!(atD l mutS).isSome || decide (kindL l mutS=1))
set_option maxHeartbeats 2000000 in
theorem p_hasRoots (l:List Def):PCall Tryz.prog gl 50 [schD l] (dB (rootsB l)):=by
  have main:∀ r b,lookS Tryz.prog 72 (ksD l) (l.map (SV.d∘Def.d)) mutS true=some (.tu [r, .d (.v (.bool b))])→b=(atD l mutS).isSome→(r.one=true∧r.cells.length=4)→PCall Tryz.prog gl 50 [schD l] (dB (rootsB l)):=fun r b h1 h2 h3=>by
    refine PCall.by_ (md:=[]) Tryz.func50 rfl (by kernel_rfl) (n:=20) Tryz.ntmps50 (by simp) (by decide) rfl ?_
    simp
    refine⟨_,h1,?_⟩
    have hb:rootsB l=(decide (kindL l queryS=1)&&(!b || decide (kindL l mutS=1))):=by rw[h2];rfl
    simp[hb]
    refine⟨h3,?_⟩
    repeat refine⟨DrawT.mk (by kernel_rfl),?_⟩
    refine CallT.p0 (p_isObject l queryS) (by first | rfl | (simp;done)|(simp[hb];done)) (by first | rfl | (simp;done)|(simp;rfl)|(simp[hb];done)) ?_
    simp
    refine BrT.dec (fun g=>?_) (fun g=>?_)
    · simp[g]
      refine BrT.mk (fun g2=>?_) (fun g2=>?_)
      case refine_2=>simp[g2]
      simp[g2]
      repeat refine⟨DrawT.mk (by kernel_rfl),?_⟩
      refine CallT.p0 (p_isObject l mutS) (by first | rfl | (simp;done)|(simp[hb,g,g2];done)) (by first | rfl | (simp;done)|(simp;rfl)|(simp[hb,g,g2];done)) ?_
      simp
    · simp[g]
  cases h:atD l mutS with
  | none=>exact main _ false (look_none h) (by rw[h];rfl) ⟨rfl,rfl⟩
  | some j=>exact main _ true (look_some h) (by rw[h];rfl) ⟨rfl,by simp[dcells_len]⟩
abbrev intS:ByteArray:=⟨#[73,110,116]⟩
abbrev strS:ByteArray:=⟨#[83,116,114,105,110,103]⟩
abbrev boolS:ByteArray:=⟨#[66,111,111,108,101,97,110]⟩
abbrev idS:ByteArray:=⟨#[73,68]⟩
abbrev fnD (f:FuncId) (caps:List D):D:=.fn (.func f) [] caps
def somD (l:List Def) (t:ByteArray):D :=
  if t=intS then fnD 162 [] else if t=strS then fnD 163 []
  else if t=boolS then fnD 164 [] else if t=idS then fnD 165 []
  else if kindL l t=2 then fnD 166 [.pp (defL l t).cells 0]
  else if kindL l t=3 then fnD 188 [.pp (defL l t).cells 0, .pp [schD l] 0]
  else fnD 168 []
def takD (l:List Def):Typ→D
  | .mk t lt b=>fnD 122 [.pp (Typ.mk t lt b).cells 0, .pp [if t=noS then (match lt with | x::_=>fnD 187 [.pp [takD l x] 0] | []=>fnD 168 []) else somD l t] 0]
def tsomD (l:List Def):Typ→D
  | .mk t lt b=>if t=noS then (match lt with | x::_=>fnD 187 [.pp [takD l x] 0] | []=>fnD 168 []) else somD l t
theorem takD_eq (l:List Def) (v:Typ):takD l v=fnD 122 [.pp v.cells 0, .pp [tsomD l v] 0]:=by
  cases v;unfold takD;rfl
theorem som_fn (l:List Def) (t:ByteArray):∃ f caps,somD l t=fnD f caps:=by
  unfold somD
  repeat' split
  all_goals exact⟨_,_,rfl⟩
theorem tsom_fn (l:List Def) (v:Typ):∃ f caps,tsomD l v=fnD f caps:=by
  cases v with
  | mk t lt b =>
    by_cases h:t=noS
    · cases lt with
      | nil=>exact⟨_,_,if_pos h⟩
      | cons x r=>exact⟨_,_,if_pos h⟩
    · obtain⟨f,c,e⟩:=som_fn l t
      exact⟨f,c,(if_neg h).trans e⟩
set_option maxHeartbeats 2000000 in
theorem p_takesList (f:FuncId) (caps:List D):PCall Tryz.prog gl 161 [fnD f caps] (fnD 187 [.pp [fnD f caps] 0]):=by
  refine PCall.by_ (md:=[]) Tryz.func161 rfl (by kernel_rfl) (n:=4) Tryz.ntmps161 (by simp) (by decide) rfl ?_
  simp
set_option maxHeartbeats 2000000 in
theorem p_takes_of (l:List Def) (v:Typ) (h:PCall Tryz.prog gl 121 [schD l,v.d] (tsomD l v)):PCall Tryz.prog gl 64 [schD l,v.d] (takD l v):=by
  rw[takD_eq]
  cases hv:v with
  | mk t lt b =>
  rw[hv] at h
  obtain⟨f,caps,hf⟩:=tsom_fn l (.mk t lt b)
  rw[hf] at h ⊢
  refine PCall.by_ (md:=[]) Tryz.func64 rfl (by kernel_rfl) (n:=10) Tryz.ntmps64 (by simp) (by decide) rfl ?_
  simp[Typ.cells]
  repeat refine⟨DrawT.mk (by kernel_rfl),?_⟩
  refine CallT.p0 (h) (by first | rfl | (simp;done)|(simp[Typ.cells];done)) (by first | rfl | (simp;done)|(simp;rfl)|(simp[Typ.cells];done)) ?_
  simp
set_option maxHeartbeats 2000000 in
theorem p_takesTree (l:List Def) (d:Def):PCall Tryz.prog gl 167 [schD l,d.d] (fnD 188 [.pp d.cells 0, .pp [schD l] 0]):=by
  refine PCall.by_ (md:=[]) Tryz.func167 rfl (by kernel_rfl) (n:=6) Tryz.ntmps167 (by simp) (by decide) rfl ?_
  simp[Def.cells]
theorem takD_fn (l:List Def) (v:Typ):∃ caps,takD l v=fnD 122 caps:=⟨_,takD_eq l v⟩
set_option maxHeartbeats 4000000 in
theorem p_takesSome (l:List Def) (v:Typ) (d:Nat) (hv:typB v d=true):PCall Tryz.prog gl 121 [schD l,v.d] (tsomD l v):=by
  cases d with
  | zero=>simp[typB] at hv
  | succ d =>
  cases hvv:v with
  | mk t lt b =>
  rw[hvv] at hv
  unfold typB at hv
  have ih:∀ x,typB x d=true→PCall Tryz.prog gl 64 [schD l,x.d] (takD l x):=fun x hx=>p_takes_of l x (p_takesSome l x d hx)
  by_cases ht:t=noS
  · subst ht
    rw[if_pos rfl] at hv
    match lt,hv with
    | [x],hv =>
      simp only at hv
      have ih:=ih x hv
      obtain⟨c,hc⟩:=takD_fn l x
      have hr:tsomD l (.mk noS [x] b)=fnD 187 [.pp [fnD 122 c] 0]:=by rw[← hc];unfold tsomD;simp only;exact if_pos trivial
      rw[hr]
      rw[hc] at ih
      cases x with
      | mk t2 l2 b2 =>
      refine PCall.by_ (md:=[]) Tryz.func121 rfl (by kernel_rfl) (n:=39) Tryz.ntmps121 (by simp) (by decide) rfl ?_
      simp[Typ.cells,typsCells]
      repeat refine⟨DrawT.mk (by kernel_rfl),?_⟩
      refine CallT.p0 (ih) (by first | rfl | (simp;done)|(simp[Typ.cells,typsCells];done)) (by first | rfl | (simp;done)|(simp;rfl)|(simp[Typ.cells,typsCells];done)) ?_
      simp
      repeat refine⟨DrawT.mk (by kernel_rfl),?_⟩
      refine CallT.p0 (p_takesList 122 c) (by first | rfl | (simp;done)|(simp[Typ.cells,typsCells];done)) (by first | rfl | (simp;done)|(simp;rfl)|(simp[Typ.cells,typsCells];done)) ?_
      simp
    | [],hv=>simp at hv
    | x::y::r,hv=>simp at hv
  · have hr:tsomD l (.mk t lt b)=somD l t:=if_neg ht
    rw[hr]
    refine PCall.by_ (md:=[]) Tryz.func121 rfl (by kernel_rfl) (n:=39) Tryz.ntmps121 (by simp) (by decide) rfl ?_
    simp[Typ.cells,ht]
    refine BrT.dec (fun c1=>?_) (fun c1=>?_)
    · simp[c1]
      simp[somD]
    simp[c1]
    refine BrT.dec (fun c2=>?_) (fun c2=>?_)
    · simp[c2]
      simp[somD]
    simp[c2]
    refine BrT.dec (fun c3=>?_) (fun c3=>?_)
    · simp[c3]
      simp[somD]
    simp[c3]
    refine BrT.dec (fun c4=>?_) (fun c4=>?_)
    · simp[c4]
      simp[somD]
    have hs:somD l t=if kindL l t=2 then fnD 166 [.pp (defL l t).cells 0]
      else if kindL l t=3 then fnD 188 [.pp (defL l t).cells 0, .pp [schD l] 0]
      else fnD 168 []:=by unfold somD;rw[if_neg c1,if_neg c2,if_neg c3,if_neg c4]
    simp[c4]
    cases hk:atD l t with
    | none =>
      have hk2:kindL l t=0:=by rw[kindL,defL_none hk];rfl
      rw[hk2] at hs
      refine⟨_,look_none hk,?_⟩
      simp
      rw[hs]
      rfl
    | some j =>
      refine⟨_,look_some hk,?_⟩
      have hkl:kindL l t=(defL l t).kind:=rfl
      rw[hkl] at hs
      simp[Def.cells]
      refine BrT.dec (fun k2=>?_) (fun k2=>?_)
      · simp[k2]
        rw[hs,if_pos k2];simp[Def.cells,k2]
      simp[k2]
      refine BrT.dec (fun k3=>?_) (fun k3=>?_)
      · simp[k3]
        have h5:=p_takesTree (gl:=gl) l (defL l t)
        simp only[Def.d,Def.cells,k3] at h5
        repeat refine⟨DrawT.mk (by kernel_rfl),?_⟩
        refine CallT.p0 (h5) (by first | rfl | (simp;done)|(simp[Typ.cells,ht,c1,c2,c3,c4,Def.cells,k2,k3];done)) (by first | rfl | (simp;done)|(simp;rfl)|(simp[Typ.cells,ht,c1,c2,c3,c4,Def.cells,k2,k3];done)) ?_
        simp
        rw[hs,if_neg k2,if_pos k3];simp[Def.cells,k3]
      simp[k3]
      rw[hs,if_neg k2,if_neg k3]
  termination_by d
def fldAt (l:List Fld) (s:ByteArray):Option Fld:=l.find? fun f=>decide (f.name=s)
def zeroFld:Fld:=⟨noS,[], .mk noS [] false⟩
set_option maxHeartbeats 2000000 in
theorem p_fieldOf (l:List Fld) (s:ByteArray) (hl:l.length≤4611686018427387904):PCall Tryz.prog gl 174 [fldsD l,dS s] (.tup [((fldAt l s).getD zeroFld).d,dB (fldAt l s).isSome]):=by
  refine PCall.by_ (md:=[]) Tryz.func174 rfl (by kernel_rfl) (n:=21) Tryz.ntmps174 (by simp) (by decide) rfl ?_
  simp
  refine LoopT.round (fun E S=>∃ (i:Nat),(i≤l.length)∧E 1=some (.d (dS s))∧E 4=some (.op 0 0)∧E 8=some (.d (fldsD l))∧E 9=some (.d (dI l.length))∧E 10=some (.d (dI i))∧S.B 0=some ([.d (dS noS), .fl [] 0, .d (dS noS), .fl [] 0, .d (dB false)])∧(fldAt (l.drop i) s=fldAt l s)∧(1≤S.nx)) (upTo 10 l.length) ⟨0,by simp⟩ ?_
  rintro E S hk ⟨i,hi,h1,h4,h8,h9,h10,hB0,hp,hx⟩
  have hn:S.n=21:=by first | (simpa using hk.n)|(have hh:=hk.n;simp at hh;exact hh)
  have hg:S.gl=gl:=by first | (simpa using hk.gl)|(have hh:=hk.gl;simp at hh;exact hh)
  have hmd:S.md=[]:=by first | (simpa using hk.md)|(have hh:=hk.md;simp at hh;exact hh)
  simp[h9,h10,hn,hg]
  have w:=wrap64 (n:=(i:Int)+1) (by omega) (by omega)
  refine BrT.dec (fun c=>?_) (fun c=>?_)
  · have hi2:i<l.length:=by omega
    have hlen:=flds_len l
    have hfit:i*5+5≤l.length*5:=by omega
    rw[List.drop_eq_getElem_cons hi2] at hp
    have hat:=flds_at l hi2
    generalize l[i]=a at hp hat
    obtain⟨nm,args,ty⟩:=a
    cases ty with
    | mk t lt b =>
    simp only[Fld.cells,Typ.cells] at hat
    simp[h1,h8,h10,hn,hg,c,hlen,hfit,hat]
    refine BrT.dec (fun e=>?_) (fun e=>?_)
    · simp[h4,hB0,hn,e]
      have hf:fldAt l s=some ⟨nm,args, .mk t lt b⟩:=by rw[← hp];unfold fldAt;rw[List.find?_cons_of_pos (by simp[e])]
      rw[hf]
      simp[Fld.cells,Typ.cells,e]
    · have hf:fldAt (l.drop (i+1)) s=fldAt l s:=by rw[← hp];unfold fldAt;rw[List.find?_cons_of_neg (by simp[e])]
      simp[h1,h4,h8,h9,h10,hB0,hn,w,e]
      exact⟨⟨i+1,hi2,by omega,hf⟩,upTo_lt h10 (by simp) hi2⟩
  · rw[List.drop_eq_nil_of_le (by omega)] at hp
    have hf:fldAt l s=none:=hp.symm
    simp[h4,hB0,hn,c]
    rw[hf]
    exact⟨rfl,rfl⟩
set_option maxHeartbeats 4000000 in
theorem p_list1 (k n:Int) (t:ByteArray) (l:List Val) (ns:List ByteArray) (c:List D) (p:Val→Bool) (hl:l.length≤4611686018427387904) (h0:PCall Tryz.prog gl 122 ((Val.mk k n t l ns).d::c) (dB (p (.mk k n t l ns)))) (h:∀ w∈l,PCall Tryz.prog gl 122 (w.d::c) (dB (p w))):PCall Tryz.prog gl 187 [(Val.mk k n t l ns).d, .pp [fnD 122 c] 0] (dB (if k=4 then l.all p else p (.mk k n t l ns))):=by
  refine PCall.by_ (md:=[]) Tryz.func187 rfl (by kernel_rfl) (n:=24) Tryz.ntmps187 (by simp) (by decide) rfl ?_
  simp[Val.cells]
  refine BrT.dec (fun k4=>?_) (fun k4=>?_)
  · simp[k4]
    refine LoopT.round (fun E S=>∃ (i:Nat),(i≤l.length)∧E 1=some (.d (.pp [fnD 122 c] 0))∧E 13=some (.d (valsD l))∧E 14=some (.d (dI l.length))∧E 15=some (.d (dI i))∧(allUp p l i)∧(1≤S.nx)) (upTo 15 l.length) ⟨0,by simp;exact allUp_zero _ _⟩ ?_
    rintro E S hk ⟨i,hi,h1,h13,h14,h15,hp,hx⟩
    have hn:S.n=24:=by first | (simpa using hk.n)|(have hh:=hk.n;simp[Val.cells,k4] at hh;exact hh)
    have hg:S.gl=gl:=by first | (simpa using hk.gl)|(have hh:=hk.gl;simp[Val.cells,k4] at hh;exact hh)
    have hmd:S.md=[]:=by first | (simpa using hk.md)|(have hh:=hk.md;simp[Val.cells,k4] at hh;exact hh)
    simp[h14,h15,hn,hg]
    have w:=wrap64 (n:=(i:Int)+1) (by omega) (by omega)
    refine BrT.dec (fun c2=>?_) (fun c2=>?_)
    · have hi2:i<l.length:=by omega
      have hlen:=valsCells_len l
      have hfit:i*5+5≤l.length*5:=by omega
      have bad:=all_bad (p:=p) hi2
      have good:=all_take (p:=p) hi2 hp
      have hh:=h _ (List.getElem_mem hi2)
      have hat:=valsCells_at l hi2
      generalize l[i]=x at bad good hh hat
      simp[h1,h13,h15,hn,c2,hlen,hfit,hat,cells_len]
      repeat refine⟨DrawT.mk (by kernel_rfl),?_⟩
      refine CallT.p0 (hh) (by first | rfl | (simp;done)|(simp[hg];done)) (by first | rfl | (simp;done)|(simp;rfl)|(simp[Val.cells,k4,h1,h13,h14,h15,hn,hg,hmd,c2,hi2,w,hlen,hfit,hat,cells_len];done)) ?_
      simp[hn]
      refine BrT.mk (fun c3=>?_) (fun c3=>?_)
      case refine_2=>(have hq:=bad c3;simp[hn,c3,hq])
      simp[h1,h13,h14,h15,hn,w,c3]
      exact⟨⟨i+1,hi2,by omega,good c3⟩,upTo_lt h15 (by simp) hi2⟩
    · have hi3:i=l.length:=by omega
      subst hi3
      have hq:l.all p=true:=allUp_all hp
      simp[hn,c2,hq]
  · simp[k4]
    repeat refine⟨DrawT.mk (by kernel_rfl),?_⟩
    refine CallT.p0 (h0) (by first | rfl | (simp;done)|(simp[Val.cells,k4];done)) (by first | rfl | (simp;done)|(simp;rfl)|(simp[Val.cells,k4];done)) ?_
    simp
theorem p_some1 (k n:Int) (t:ByteArray) (l:List Val) (ns:List ByteArray):PCall Tryz.prog gl 162 [(Val.mk k n t l ns).d] (dB (decide (k=2))):=by
  refine PCall.by_ (md:=[]) Tryz.func162 rfl (by kernel_rfl) (n:=6) Tryz.ntmps162 (by simp) (by decide) rfl ?_
  simp[Val.cells]
theorem p_some2 (k n:Int) (t:ByteArray) (l:List Val) (ns:List ByteArray):PCall Tryz.prog gl 163 [(Val.mk k n t l ns).d] (dB (decide (k=3))):=by
  refine PCall.by_ (md:=[]) Tryz.func163 rfl (by kernel_rfl) (n:=6) Tryz.ntmps163 (by simp) (by decide) rfl ?_
  simp[Val.cells]
theorem p_some3 (k n:Int) (t:ByteArray) (l:List Val) (ns:List ByteArray):PCall Tryz.prog gl 164 [(Val.mk k n t l ns).d] (dB (decide (k=1))):=by
  refine PCall.by_ (md:=[]) Tryz.func164 rfl (by kernel_rfl) (n:=6) Tryz.ntmps164 (by simp) (by decide) rfl ?_
  simp[Val.cells]
theorem p_some4 (k n:Int) (t:ByteArray) (l:List Val) (ns:List ByteArray):PCall Tryz.prog gl 165 [(Val.mk k n t l ns).d] (dB (decide (k=3) || decide (k=2))):=by
  refine PCall.by_ (md:=[]) Tryz.func165 rfl (by kernel_rfl) (n:=11) Tryz.ntmps165 (by simp) (by decide) rfl ?_
  simp[Val.cells]
  refine BrT.dec (fun k3=>?_) (fun k3=>?_)
  · simp[k3]
  · simp[k3]
theorem p_never (k n:Int) (t:ByteArray) (l:List Val) (ns:List ByteArray):PCall Tryz.prog gl 168 [(Val.mk k n t l ns).d] (dB false):=by
  refine PCall.by_ (md:=[]) Tryz.func168 rfl (by kernel_rfl) (n:=3) Tryz.ntmps168 (by simp) (by decide) rfl ?_
  simp[Val.cells]
theorem p_some5 (k n:Int) (t:ByteArray) (l:List Val) (ns:List ByteArray) (d:Def) (hw:d.words.length≤4611686018427387904):PCall Tryz.prog gl 166 [(Val.mk k n t l ns).d, .pp d.cells 0] (dB ((decide (k=7) || decide (k=3))&&memB t d.words)):=by
  refine PCall.by_ (md:=[]) Tryz.func166 rfl (by kernel_rfl) (n:=19) Tryz.ntmps166 (by simp) (by decide) rfl ?_
  simp[Val.cells,Def.cells]
  refine BrT.dec (fun k7=>?_) (fun k7=>?_)
  · simp[k7]
    repeat refine⟨DrawT.mk (by kernel_rfl),?_⟩
    refine CallT.p0 (p_Contains d.words t hw) (by first | rfl | (simp;done)|(simp[Val.cells,Def.cells,k7];done)) (by first | rfl | (simp;done)|(simp;rfl)|(simp[Val.cells,Def.cells,k7];done)) ?_
    simp
  · simp[k7]
    refine BrT.dec (fun k3=>?_) (fun k3=>?_)
    · simp[k3]
      repeat refine⟨DrawT.mk (by kernel_rfl),?_⟩
      refine CallT.p0 (p_Contains d.words t hw) (by first | rfl | (simp;done)|(simp[Val.cells,Def.cells,k7,k3];done)) (by first | rfl | (simp;done)|(simp;rfl)|(simp[Val.cells,Def.cells,k7,k3];done)) ?_
      simp
    · simp[k3]
def pairB (flds:List Fld) (p:Typ→Val→Bool) (x:ByteArray×Val):Bool:=match fldAt flds x.1 with | some f=>p f.ty x.2 | none=>false
def isReq:Typ→Bool | .mk _ _ b=>b
def reqB (ns:List ByteArray) (f:Fld):Bool:=!(isReq f.ty && !memB f.name ns)
theorem idx_neg (x:ByteArray) (l:List ByteArray):decide (idxI x l<0) = !memB x l:=by
  rw[← idxI_mem]
  by_cases h:0≤idxI x l
  · rw[decide_eq_true h,decide_eq_false (by omega)];rfl
  · rw[decide_eq_false h,decide_eq_true (by omega)];rfl
theorem p_placeOf (l:List ByteArray) (x:ByteArray) (hl:l.length≤4611686018427387904):PCall Tryz.prog gl 189 [namesD l,dS x] (dI (idxI x l)):=by
  refine PCall.by_ (md:=[]) Tryz.func189 rfl (by kernel_rfl) (n:=8) Tryz.ntmps189 (by simp) (by decide) rfl ?_
  simp
  repeat refine⟨DrawT.mk (by kernel_rfl),?_⟩
  refine CallT.p0 (p_Index l x hl) (by first | rfl | (simp;done)|(simp;done)) (by first | rfl | (simp;done)|(simp;rfl)|(simp;done)) ?_
  simp
set_option maxHeartbeats 4000000 in
theorem p_tree1 (L:List Def) (k n:Int) (t:ByteArray) (l:List Val) (ns:List ByteArray) (d:Def) (p:Typ→Val→Bool) (hf:d.flds.length≤4611686018427387904) (hn:k=5→ns.length≤l.length) (hl:l.length≤4611686018427387904) (h:∀ f∈d.flds,PCall Tryz.prog gl 64 [schD L,f.ty.d] (takD L f.ty)∧∀ w∈l,PCall Tryz.prog gl 122 (w.d::[.pp f.ty.cells 0, .pp [tsomD L f.ty] 0]) (dB (p f.ty w))):PCall Tryz.prog gl 188 [(Val.mk k n t l ns).d, .pp d.cells 0, .pp [schD L] 0] (dB (decide (k=5)&&((ns.zip l).all (pairB d.flds p)&&d.flds.all (reqB ns)))):=by
  refine PCall.by_ (md:=[]) Tryz.func188 rfl (by kernel_rfl) (n:=64) Tryz.ntmps188 (by simp) (by decide) rfl ?_
  simp[Val.cells,Def.cells]
  refine BrT.dec (fun k5=>?_) (fun k5=>?_)
  case refine_2=>simp[k5]
  have hn:=hn k5
  have hnl:ns.length≤4611686018427387904:=by omega
  have hz:(ns.zip l).length=ns.length:=by simp;omega
  simp[k5]
  refine LoopT.round (fun E S=>∃ (i:Nat),(i≤ns.length)∧E 1=some (.d (.pp [dS d.name,dI d.kind,fldsD d.flds,namesD d.words] 0))∧E 2=some (.d (.pp [schD L] 0))∧E 3=some (.op 0 0)∧E 15=some (.d (namesD ns))∧E 16=some (.d (dI ns.length))∧E 17=some (.d (dI i))∧S.B 0=some ([.d (dI k), .d (dI n), .d (dS t), .d (valsD l), .d (namesD ns)])∧(allUp (pairB d.flds p) (ns.zip l) i)∧(1≤S.nx)) (upTo 17 ns.length) ⟨0,by simp[k5];exact allUp_zero _ _⟩ ?_
  rintro E S hk ⟨i,hi,h1,h2,h3,h15,h16,h17,hB0,hp,hx⟩
  have hn:S.n=64:=by first | (simpa using hk.n)|(have hh:=hk.n;simp[Val.cells,Def.cells,k5] at hh;exact hh)
  have hg:S.gl=gl:=by first | (simpa using hk.gl)|(have hh:=hk.gl;simp[Val.cells,Def.cells,k5] at hh;exact hh)
  have hmd:S.md=[]:=by first | (simpa using hk.md)|(have hh:=hk.md;simp[Val.cells,Def.cells,k5] at hh;exact hh)
  simp[k5,h16,h17,hn,hg]
  have w:=wrap64 (n:=(i:Int)+1) (by omega) (by omega)
  refine BrT.dec (fun c2=>?_) (fun c2=>?_)
  · have hi2:i<ns.length:=by omega
    have hi4:i<l.length:=by omega
    have hi3:i<(ns.zip l).length:=by omega
    have hlen:=valsCells_len l
    have hfit:i*5+5≤l.length*5:=by omega
    have bad:=all_bad (p:=pairB d.flds p) hi3
    have good:=all_take (p:=pairB d.flds p) hi3 hp
    have hzi:(ns.zip l)[i]=(ns[i],l[i]):=List.getElem_zip
    rw[hzi] at bad good
    have hat:=valsCells_at l hi4
    have hwm:=List.getElem_mem hi4
    generalize l[i]=x at bad good hat hwm
    have hF:=fun s=>p_fieldOf (gl:=gl) d.flds s hf
    obtain⟨s,hs⟩:∃ s,ns[i]=s:=⟨_,rfl⟩
    rw[hs] at bad good
    cases hfa:fldAt d.flds s with
    | none =>
      have hF:=hF s
      rw[hfa] at hF
      have hq:=bad (by simp[pairB,hfa])
      simp[h1,h15,h17,hn,c2,hs,hq]
      repeat refine⟨DrawT.mk (by kernel_rfl),?_⟩
      refine CallT.p0 (hF) (by first | rfl | (simp;done)|(simp[hg];done)) (by first | rfl | (simp;done)|(simp;rfl)|(simp[Val.cells,Def.cells,k5,h1,h2,h3,h15,h16,h17,hB0,hn,hg,hmd,c2,hi2,w,hlen,hfit,hat,cells_len,hi4,hs,hq];done)) ?_
      simp[hn]
      exact⟨rfl,DrawT.mk (by kernel_rfl)⟩
    | some f =>
      have hF:=hF s
      rw[hfa] at hF
      have hfm:f∈d.flds:=List.mem_of_find?_eq_some hfa
      obtain⟨hT,hU⟩:=h f hfm
      have hU:=hU x hwm
      have hpr:pairB d.flds p (s,x)=p f.ty x:=by simp[pairB,hfa]
      rw[hpr] at bad good
      obtain⟨fn,fa,ft⟩:=f
      cases ft with
      | mk t2 l2 b2 =>
      simp only at hT hU bad good
      rw[takD_eq] at hT
      simp[h1,h15,h17,hn,c2,hs]
      repeat refine⟨DrawT.mk (by kernel_rfl),?_⟩
      refine CallT.p0 (hF) (by first | rfl | (simp;done)|(simp[hg];done)) (by first | rfl | (simp;done)|(simp;rfl)|(simp[Val.cells,Def.cells,k5,h1,h2,h3,h15,h16,h17,hB0,hn,hg,hmd,c2,hi2,w,hlen,hfit,hat,cells_len,hi4,hs,Fld.cells,Typ.cells];done)) ?_
      simp[h2,hn,Fld.cells,Typ.cells]
      refine⟨DrawT.mk (by kernel_rfl),?_⟩
      repeat refine⟨DrawT.mk (by kernel_rfl),?_⟩
      refine CallT.p0 (hT) (by first | rfl | (simp;done)|(simp[hg];done)) (by first | rfl | (simp;done)|(simp;rfl)|(simp[Val.cells,Def.cells,k5,h1,h2,h3,h15,h16,h17,hB0,hn,hg,hmd,c2,hi2,w,hlen,hfit,hat,cells_len,hi4,hs,Fld.cells,Typ.cells];done)) ?_
      simp[k5,h3,hB0,hn,hlen,hfit,hat,hi4,Typ.cells]
      repeat refine⟨DrawT.mk (by kernel_rfl),?_⟩
      refine CallT.p0 (hU) (by first | rfl | (simp;done)|(simp[hg];done)) (by first | rfl | (simp;done)|(simp;rfl)|(simp[Val.cells,Def.cells,k5,h1,h2,h3,h15,h16,h17,hB0,hn,hg,hmd,c2,hi2,w,hlen,hfit,hat,cells_len,hi4,hs,Fld.cells,Typ.cells];done)) ?_
      simp[hn]
      refine BrT.mk (fun c3=>?_) (fun c3=>?_)
      case refine_2=>(have hq:=bad c3;simp[hn,c3,hq])
      simp[k5,h1,h2,h3,h15,h16,h17,hB0,hn,w,c3]
      exact⟨⟨i+1,hi2,by omega,good c3⟩,upTo_lt h17 (by simp) hi2⟩
  · have hi3:i=ns.length:=by omega
    subst hi3
    have hzz:=allUp_all (l:=ns.zip l) (p:=pairB d.flds p) (by rw[hz];exact hp)
    simp[h1,hn,c2]
    refine LoopT.round (fun E S=>∃ (j:Nat),(j≤d.flds.length)∧E 1=some (.d (.pp [dS d.name,dI d.kind,fldsD d.flds,namesD d.words] 0))∧E 3=some (.op 0 0)∧E 46=some (.d (fldsD d.flds))∧E 47=some (.d (dI d.flds.length))∧E 48=some (.d (dI j))∧S.B 0=some ([.d (dI k), .d (dI n), .d (dS t), .d (valsD l), .d (namesD ns)])∧(allUp (reqB ns) d.flds j)∧(1≤S.nx)) (upTo 48 d.flds.length) ⟨0,by simp[k5,h1,h3,hB0];exact allUp_zero _ _⟩ ?_
    rintro E S hk ⟨j,hj,h1,h3,h46,h47,h48,hB0,hp2,hx⟩
    have hn:S.n=64:=by first | (simpa using hk.n)|(have hh:=hk.n;simp[hn] at hh;exact hh)
    have hg:S.gl=gl:=by first | (simpa using hk.gl)|(have hh:=hk.gl;simp[hg] at hh;exact hh)
    have hmd:S.md=[]:=by first | (simpa using hk.md)|(have hh:=hk.md;simp[hmd] at hh;exact hh)
    simp[k5,h47,h48,hn,hg]
    have w2:=wrap64 (n:=(j:Int)+1) (by omega) (by omega)
    refine BrT.dec (fun c4=>?_) (fun c4=>?_)
    · have hj2:j<d.flds.length:=by omega
      have flen:=flds_len d.flds
      have ffit:j*5+5≤d.flds.length*5:=by omega
      have bad2:=all_bad (p:=reqB ns) hj2
      have good2:=all_take (p:=reqB ns) hj2 hp2
      have fat:=flds_at d.flds hj2
      generalize d.flds[j]=f at bad2 good2 fat
      obtain⟨nm,fa,ft⟩:=f
      cases ft with
      | mk t2 l2 b2 =>
      simp only[Fld.cells,Typ.cells] at fat
      simp[h46,h48,hn,c4,flen,ffit,fat]
      refine BrT.mk (fun c5=>?_) (fun c5=>?_)
      · simp[k5,h3,hB0,hn,c5]
        repeat refine⟨DrawT.mk (by kernel_rfl),?_⟩
        refine CallT.p0 (p_placeOf ns nm hnl) (by first | rfl | (simp;done)|(simp[Val.cells,Def.cells,k5,h1,h2,h3,h15,h16,h17,hB0,hn,hg,hmd,c2,h1,h3,h46,h47,h48,hB0,hn,hg,hmd,c4,hj2,w2,flen,ffit,fat,c5];done)) (by first | rfl | (simp;done)|(simp;rfl)|(simp[Val.cells,Def.cells,k5,h1,h2,h3,h15,h16,h17,hB0,hn,hg,hmd,c2,h1,h3,h46,h47,h48,hB0,hn,hg,hmd,c4,hj2,w2,flen,ffit,fat,c5];done)) ?_
        simp[hn]
        have hneg:=idx_neg nm ns
        refine BrT.dec (fun c6=>?_) (fun c6=>?_)
        · rw[decide_eq_true c6] at hneg
          have hq:=bad2 (by simp only[reqB,isReq,c5];revert hneg;cases memB nm ns<;>simp)
          simp[hn,c6,hzz,hq]
        · rw[decide_eq_false c6] at hneg
          have hq:=good2 (by simp only[reqB,isReq,c5];revert hneg;cases memB nm ns<;>simp)
          simp[k5,h1,h3,h46,h47,h48,hB0,hn,w2,c6]
          exact⟨⟨j+1,hj2,by omega,hq⟩,upTo_lt h48 (by simp) hj2⟩
      · have hq:=good2 (by simp only[reqB,isReq,c5];rfl)
        simp[k5,h1,h3,h46,h47,h48,hB0,hn,w2,c5]
        exact⟨⟨j+1,hj2,by omega,hq⟩,upTo_lt h48 (by simp) hj2⟩
    · have hj3:j=d.flds.length:=by omega
      subst hj3
      simp[hn,c4,hzz,allUp_all hp2]
set_option maxHeartbeats 2000000 in
theorem p_takes1 (k n:Int) (x:ByteArray) (vs:List Val) (ns:List ByteArray) (t:Typ) (f:FuncId) (caps:List D) (r:Bool) (h:PCall Tryz.prog gl f ((Val.mk k n x vs ns).d::caps) (dB r)):PCall Tryz.prog gl 122 [(Val.mk k n x vs ns).d, .pp t.cells 0, .pp [fnD f caps] 0] (dB (if k=0 then !isReq t else r)):=by
  cases t with
  | mk t lt b =>
  refine PCall.by_ (md:=[]) Tryz.func122 rfl (by kernel_rfl) (n:=14) Tryz.ntmps122 (by simp) (by decide) rfl ?_
  simp[Val.cells,Typ.cells]
  refine BrT.dec (fun k0=>?_) (fun k0=>?_)
  · simp[k0]
    rfl
  · simp[k0]
    repeat refine⟨DrawT.mk (by kernel_rfl),?_⟩
    refine CallT.p0 (h) (by first | rfl | (simp;done)|(simp[Val.cells,Typ.cells,k0];done)) (by first | rfl | (simp;done)|(simp;rfl)|(simp[Val.cells,Typ.cells,k0];done)) ?_
    simp
inductive TW:Val→Prop
  | mk {k n:Int} {t:ByteArray} {l:List Val} {ns:List ByteArray} (hn:k=5→ns.length≤l.length) (h:∀ v∈l,TW v):TW (.mk k n t l ns)
def fitsB (l:List Def):Typ→Val→Bool
  | .mk t lt b, .mk k n x vs ns =>
    if k=0 then !b
    else if t=noS then (match lt with
      | y::_=>if k=4 then vs.attach.all (fun v=>fitsB l y v.1) else fitsB l y (.mk k n x vs ns)
      | []=>false)
    else if t=intS then decide (k=2) else if t=strS then decide (k=3) else if t=boolS then decide (k=1) else if t=idS then decide (k=3) || decide (k=2)
    else if kindL l t=2 then (decide (k=7) || decide (k=3))&&memB x (defL l t).words
    else if kindL l t=3 then decide (k=5)&&((ns.zip vs).attach.all (fun q=>match fldAt (defL l t).flds q.1.1 with | some f=>fitsB l f.ty q.1.2 | none=>false)&&(defL l t).flds.all (reqB ns))
    else false
termination_by t v=>(SizeOf.sizeOf v,SizeOf.sizeOf t)
decreasing_by
  · have:=List.sizeOf_lt_of_mem v.2
    apply Prod.Lex.left
    simp;omega
  · apply Prod.Lex.right
    simp;omega
  · obtain⟨⟨s,w⟩,hq⟩:=q
    have:=List.sizeOf_lt_of_mem (List.of_mem_zip hq).2
    apply Prod.Lex.left
    simp;omega
theorem attach_all {α:Type} (l:List α) (p:α→Bool):(l.attach.all fun v=>p v.1)=l.all p:=by
  rw[Bool.eq_iff_iff,List.all_eq_true,List.all_eq_true]
  exact⟨fun h v hv=>h ⟨v,hv⟩ (List.mem_attach _ _),fun h v _=>h v.1 v.2⟩
def fitsS (l:List Def) (t:ByteArray) (lt:List Typ) (k n:Int) (x:ByteArray) (vs:List Val) (ns:List ByteArray):Bool :=
  if t=noS then (match lt with
      | y::_=>if k=4 then vs.all (fitsB l y) else fitsB l y (.mk k n x vs ns)
      | []=>false)
    else if t=intS then decide (k=2) else if t=strS then decide (k=3) else if t=boolS then decide (k=1) else if t=idS then decide (k=3) || decide (k=2)
    else if kindL l t=2 then (decide (k=7) || decide (k=3))&&memB x (defL l t).words
    else if kindL l t=3 then decide (k=5)&&((ns.zip vs).all (pairB (defL l t).flds (fitsB l))&&(defL l t).flds.all (reqB ns))
    else false
theorem fitsB_eq (l:List Def) (t:ByteArray) (lt:List Typ) (b:Bool) (k n:Int) (x:ByteArray) (vs:List Val) (ns:List ByteArray):fitsB l (.mk t lt b) (.mk k n x vs ns)=if k=0 then !b else fitsS l t lt k n x vs ns:=by
  unfold fitsB fitsS
  simp only[attach_all vs]
  rw[show ((ns.zip vs).attach.all fun q=>match fldAt (defL l t).flds q.1.1 with | some f=>fitsB l f.ty q.1.2 | none=>false)=(ns.zip vs).all (pairB (defL l t).flds (fitsB l)) from attach_all (ns.zip vs) (pairB (defL l t).flds (fitsB l))]
theorem defL_mem {l:List Def}{t:ByteArray} (h:kindL l t≠0):defL l t∈l:=by
  cases ha:atD l t with
  | none=>exact absurd (by rw[kindL,defL_none ha];rfl) h
  | some j=>rw[defL_some ha];exact List.getElem_mem _
def Tk (gl:Nat→Option D) (D0:D) (v:Val) (r:Bool):Prop:=∃ f caps,D0=fnD f caps∧PCall Tryz.prog gl f (v.d::caps) (dB r)
set_option maxHeartbeats 1000000 in
theorem p_fits (l:List Def) (hd:∀ d∈l,defB d=true∧DefOk d) (v:Val) (t:Typ) (e:Nat) (ht:typB t e=true) (hv:WF v) (hw:TW v):PCall Tryz.prog gl 122 [v.d, .pp t.cells 0, .pp [tsomD l t] 0] (dB (fitsB l t v)):=by
  match t,v,e,ht,hv,hw with
  | t,v,0,ht,_,_=>simp[typB] at ht
  | .mk t lt b, .mk k n x vs ns,e+1,ht, .mk hx hn hl hwf, .mk hz htw =>
  rw[fitsB_eq]
  have h1:Tk gl (tsomD l (.mk t lt b)) (.mk k n x vs ns) (fitsS l t lt k n x vs ns):=by
    unfold typB at ht
    by_cases h0:t=noS
    · rw[if_pos h0] at ht
      match hlt:lt,ht with
      | [],ht=>simp at ht
      | _::_::_,ht=>simp at ht
      | [y],ht =>
        simp only at ht
        have hr:tsomD l (.mk t [y] b)=fnD 187 [.pp [takD l y] 0]:=if_pos h0
        have hs:fitsS l t [y] k n x vs ns=if k=4 then vs.all (fitsB l y) else fitsB l y (.mk k n x vs ns):=if_pos h0
        rw[hr,hs,takD_eq]
        exact⟨_,_,rfl,p_list1 k n x vs ns _ (fitsB l y) hl (p_fits l hd (.mk k n x vs ns) y e ht (.mk hx hn hl hwf) (.mk hz htw)) fun w hm=>p_fits l hd w y e ht (hwf w hm) (htw w hm)⟩
    · have hr:tsomD l (.mk t lt b)=somD l t:=if_neg h0
      rw[hr]
      unfold fitsS somD
      rw[if_neg h0]
      by_cases h1:t=intS
      · rw[if_pos h1,if_pos h1];exact⟨_,_,rfl,p_some1 k n x vs ns⟩
      rw[if_neg h1,if_neg h1]
      by_cases h2:t=strS
      · rw[if_pos h2,if_pos h2];exact⟨_,_,rfl,p_some2 k n x vs ns⟩
      rw[if_neg h2,if_neg h2]
      by_cases h3:t=boolS
      · rw[if_pos h3,if_pos h3];exact⟨_,_,rfl,p_some3 k n x vs ns⟩
      rw[if_neg h3,if_neg h3]
      by_cases h4:t=idS
      · rw[if_pos h4,if_pos h4];exact⟨_,_,rfl,p_some4 k n x vs ns⟩
      rw[if_neg h4,if_neg h4]
      by_cases h5:kindL l t=2
      · rw[if_pos h5,if_pos h5]
        have hm:=defL_mem (l:=l) (t:=t) (by omega)
        exact⟨_,_,rfl,p_some5 k n x vs ns _ (by have:=(hd _ hm).2.2.2.1;omega)⟩
      rw[if_neg h5,if_neg h5]
      by_cases h6:kindL l t=3
      · rw[if_pos h6,if_pos h6]
        have hm:=defL_mem (l:=l) (t:=t) (by omega)
        obtain⟨hb,hok⟩:=hd _ hm
        refine⟨_,_,rfl,p_tree1 l k n x vs ns (defL l t) (fitsB l) hok.2.1.1 hz hl fun f hf=>?_⟩
        have hty:=(fld_of hb f hf).1
        exact⟨p_takes_of l f.ty (p_takesSome l f.ty 3 hty),fun w hm=>p_fits l hd w f.ty 3 hty (hwf w hm) (htw w hm)⟩
      · rw[if_neg h6,if_neg h6]
        exact⟨_,_,rfl,p_never k n x vs ns⟩
  obtain⟨f,caps,hf,hp⟩:=h1
  rw[hf]
  exact p_takes1 k n x vs ns (.mk t lt b) f caps _ hp
  termination_by (SizeOf.sizeOf v,SizeOf.sizeOf t)
  decreasing_by
    · apply Prod.Lex.right
      subst hlt
      simp;omega
    · have:=List.sizeOf_lt_of_mem hm
      apply Prod.Lex.left
      simp;omega
    · have:=List.sizeOf_lt_of_mem hm
      apply Prod.Lex.left
      simp;omega
def argFits (l:List Def) (a:Arg):Bool:=!(a.has && !fitsB l a.ty a.els)
def fldFits (l:List Def) (f:Fld):Bool:=f.args.all (argFits l)
def defFits (l:List Def) (d:Def):Bool:=d.flds.all (fldFits l)
set_option maxHeartbeats 4000000 in
theorem p_elses1 (l:List Def) (d:Def) (hok:DefOk d) (hd:∀ d∈l,defB d=true∧DefOk d) (hb:defB d=true) (htw:∀ a:Arg,argB a=true→a.has=true→TW a.els):PCall Tryz.prog gl 111 [d.d, .pp [schD l] 0] (dB (defFits l d)):=by
  refine PCall.by_ (md:=[]) Tryz.func111 rfl (by kernel_rfl) (n:=36) Tryz.ntmps111 (by simp) (by decide) rfl ?_
  simp[Def.cells]
  have hfl:=hok.2.1.1
  refine LoopT.round (fun E S=>∃ (i:Nat),(i≤d.flds.length)∧E 1=some (.d (.pp [schD l] 0))∧E 9=some (.d (fldsD d.flds))∧E 10=some (.d (dI d.flds.length))∧E 11=some (.d (dI i))∧(allUp (fldFits l) d.flds i)∧(1≤S.nx)) (upTo 11 d.flds.length) ⟨0,by simp;exact allUp_zero _ _⟩ ?_
  rintro E S hk ⟨i,hi,h1,h9,h10,h11,hp,hx⟩
  have hn:S.n=36:=by first | (simpa using hk.n)|(have hh:=hk.n;simp[Def.cells] at hh;exact hh)
  have hg:S.gl=gl:=by first | (simpa using hk.gl)|(have hh:=hk.gl;simp[Def.cells] at hh;exact hh)
  have hmd:S.md=[]:=by first | (simpa using hk.md)|(have hh:=hk.md;simp[Def.cells] at hh;exact hh)
  simp[h10,h11,hn,hg]
  have w:=wrap64 (n:=(i:Int)+1) (by omega) (by omega)
  refine BrT.dec (fun c=>?_) (fun c=>?_)
  · have hi2:i<d.flds.length:=by omega
    have hlen:=flds_len d.flds
    have hfit:i*5+5≤d.flds.length*5:=by omega
    have hN:=fld_of hb _ (List.getElem_mem hi2)
    have hO:=hok.2.1.2 _ (List.getElem_mem hi2)
    have bad:fldFits l d.flds[i]=false→defFits l d=false:=fun h=>all_bad hi2 h
    have good:=all_take (p:=fldFits l) hi2 hp
    have hat:=flds_at d.flds hi2
    generalize hav:d.flds[i]=a at hN hO bad good hat
    have hab:fldFits l a=a.args.all (argFits l):=rfl
    obtain⟨nm,args,ty⟩:=a
    obtain⟨hN1,hN2⟩:=hN
    obtain⟨hal,hao⟩:=hO.2.1
    simp only at hN1 hN2 hal hao hab
    cases ty with
    | mk t lt b =>
    simp only[Fld.cells,Typ.cells] at hat
    simp[h9,h11,hn,c,hlen,hfit,hat]
    have o11:=h11
    refine LoopT.round (fun E S=>∃ (k:Nat),(k≤args.length)∧E 1=some (.d (.pp [schD l] 0))∧E 9=some (.d (fldsD d.flds))∧E 10=some (.d (dI d.flds.length))∧E 11=some (.d (dI i))∧E 16=some (.d (argsD args))∧E 17=some (.d (dI args.length))∧E 18=some (.d (dI k))∧(allUp (argFits l) args k)∧(1≤S.nx)) (upTo 18 args.length) ⟨0,by simp[h1,h9,h10,h11];exact allUp_zero _ _⟩ ?_
    rintro E S hk ⟨k,hkl,h1,h9,h10,h11,h16,h17,h18,hp2,hx⟩
    have hn:S.n=36:=by first | (simpa using hk.n)|(have hh:=hk.n;simp[hn] at hh;exact hh)
    have hg:S.gl=gl:=by first | (simpa using hk.gl)|(have hh:=hk.gl;simp[hg] at hh;exact hh)
    have hmd:S.md=[]:=by first | (simpa using hk.md)|(have hh:=hk.md;simp[hmd] at hh;exact hh)
    simp[h17,h18,hn,hg]
    have w2:=wrap64 (n:=(k:Int)+1) (by omega) (by omega)
    refine BrT.dec (fun c2=>?_) (fun c2=>?_)
    · have hk2:k<args.length:=by omega
      have alen:=args_len args
      have afit:k*10+10≤args.length*10:=by omega
      have bad2:=all_bad (p:=argFits l) hk2
      have good2:=all_take (p:=argFits l) hk2 hp2
      have aat:=args_at args hk2
      have hA:=hN2 _ (List.getElem_mem hk2)
      have hAO:=hao _ (List.getElem_mem hk2)
      generalize args[k]=x at bad2 good2 aat hA hAO
      have hty:=typ_of hA
      have htx:=htw x hA
      have hT:=p_takes_of (gl:=gl) l x.ty (p_takesSome l x.ty 3 hty)
      rw[takD_eq] at hT
      have hF:=fun h=>p_fits (gl:=gl) l hd x.els x.ty 3 hty hAO.2.2 (htx h)
      have hax:argFits l x = !(x.has && !fitsB l x.ty x.els):=rfl
      obtain⟨xn,xt,xh,xe⟩:=x
      simp only at bad2 good2 hT hF hax
      cases xt with
      | mk t2 l2 b2 =>
      cases xe with
      | mk ek en et el ens =>
      simp only[Arg.cells,Typ.cells,Val.cells] at aat
      simp[h16,h18,hn,c2,alen,afit,aat]
      refine⟨DrawT.mk (by kernel_rfl),?_⟩
      refine BrT.mk (fun c3=>?_) (fun c3=>?_)
      · have hF:=hF c3
        simp[h1,hn,c3]
        repeat refine⟨DrawT.mk (by kernel_rfl),?_⟩
        refine CallT.p0 (hT) (by first | rfl | (simp;done)|(simp[hg];done)) (by first | rfl | (simp;done)|(simp;rfl)|(simp[Def.cells,h1,h9,h10,h11,hn,hg,hmd,c,hi2,w,hlen,hfit,hat,h1,h9,h10,h11,h16,h17,h18,hn,hg,hmd,c2,hk2,w2,alen,afit,aat,Typ.cells,Val.cells,c3];done)) ?_
        simp[hn,Typ.cells]
        repeat refine⟨DrawT.mk (by kernel_rfl),?_⟩
        refine CallT.p0 (hF) (by first | rfl | (simp;done)|(simp[hg];done)) (by first | rfl | (simp;done)|(simp;rfl)|(simp[Def.cells,h1,h9,h10,h11,hn,hg,hmd,c,hi2,w,hlen,hfit,hat,h1,h9,h10,h11,h16,h17,h18,hn,hg,hmd,c2,hk2,w2,alen,afit,aat,Typ.cells,Val.cells,c3];done)) ?_
        simp[hn]
        refine BrT.mk (fun c4=>?_) (fun c4=>?_)
        case refine_2=>(have hq:=bad (by rw[hab];exact bad2 (by rw[hax,c3,c4];rfl));simp[hn,c4,hq])
        simp[h1,h9,h10,h11,h16,h17,h18,hn,w2,c4]
        exact⟨⟨k+1,hk2,by omega,good2 (by rw[hax,c3,c4];rfl)⟩,upTo_lt h18 (by simp) hk2⟩
      · simp[h1,h9,h10,h11,h16,h17,h18,hn,w2,c3]
        exact⟨⟨k+1,hk2,by omega,good2 (by rw[hax,c3];rfl)⟩,upTo_lt h18 (by simp) hk2⟩
    · have hk3:k=args.length:=by omega
      subst hk3
      have hq:=good (by rw[hab];exact allUp_all hp2)
      simp[w,h1,h9,h10,h11,hn,c2]
      exact⟨⟨i+1,hi2,by omega,hq⟩,upTo_lt o11 (by simp) hi2⟩
  · have hi3:i=d.flds.length:=by omega
    subst hi3
    have hq:defFits l d=true:=allUp_all hp
    simp[hn,c,hq]
theorem oksB_mem {d:Int}{w:Bool}{v:Val}:∀ {l:List Val},oksB l d w=true→v∈l→okB v d w=true
  | [],_,hm=>by cases hm
  | x::r,h,hm=>by
    rw[oksB,Bool.and_eq_true] at h
    rcases List.mem_cons.1 hm with rfl | hm
    · exact h.1
    · exact oksB_mem h.2 hm
theorem tw_of (v:Val) (d:Int) (w:Bool) (h:okB v d w=true):TW v:=by
  match v,h with
  | .mk k n t l ns,h =>
    rw[okB] at h
    simp only[Bool.and_eq_true] at h
    refine .mk (fun k5=>?_) fun x hx=>tw_of x (d - 1) w (oksB_mem h.2 hx)
    have hp:=h.1.1.1.2
    subst k5
    simp[plainB] at hp
    omega
  termination_by SizeOf.sizeOf v
  decreasing_by
    have:=List.sizeOf_lt_of_mem hx
    simp;omega
set_option maxHeartbeats 2000000 in
theorem p_elsesFit (l:List Def) (hd:∀ d∈l,defB d=true∧DefOk d):PCall Tryz.prog gl 51 [schD l] (dB (l.all (defFits l))):=by
  have htw:∀ a:Arg,argB a=true→a.has=true→TW a.els:=fun a h hh=>by
    unfold argB elseB at h
    rw[hh,if_pos rfl,Bool.and_eq_true] at h
    exact tw_of _ _ _ h.2
  have h:=p_eachDef (gl:=gl) l 111 [.pp [schD l] 0] (defFits l) fun d hm=>p_elses1 l d (hd d hm).2 hd (hd d hm).1 htw
  refine PCall.by_ (md:=[]) Tryz.func51 rfl (by kernel_rfl) (n:=6) Tryz.ntmps51 (by simp) (by decide) rfl ?_
  simp
  refine CallT.l (LCall.ofP (k:=9) h (by simp)) rfl ?_
  simp
def atZ (l:List Def) (s:ByteArray):Int:=match atD l s with | some j=>j | none=>-1
theorem atD_found {l:List Def}{s:ByteArray}{i:Nat} (hi:i<l.length) (h:∀ j (hj:j<l.length),j<i→l[j].name≠s) (he:l[i].name=s):atD l s=some i:=by
  unfold atD
  rw[List.findIdx?_eq_some_iff_getElem]
  exact⟨hi,by simp[he],fun j hj=>by simpa using h j (by omega) hj⟩
theorem atD_none {l:List Def}{s:ByteArray} (h:∀ j (hj:j<l.length),l[j].name≠s):atD l s=none:=by
  unfold atD
  rw[List.findIdx?_eq_none_iff]
  intro d hd
  obtain⟨j,hj,rfl⟩:=List.getElem_of_mem hd
  simpa using h j hj
set_option maxHeartbeats 2000000 in
theorem p_l2At (l:List Def) (s:ByteArray) (hl:l.length≤4611686018427387904):PCall Tryz.prog gl 57 [defsD l,dS s] (dI (atZ l s)):=by
  refine PCall.by_ (md:=[]) Tryz.func57 rfl (by kernel_rfl) (n:=20) Tryz.ntmps57 (by simp) (by decide) rfl ?_
  simp
  refine LoopT.round (fun E S=>∃ (i:Nat),(i≤l.length)∧E 0=some (.d (defsD l))∧E 1=some (.d (dS s))∧E 5=some (.d (dI i))∧(∀ j (hj:j<l.length),j<i→l[j].name≠s)) (upTo 5 l.length) ⟨0,by simp⟩ ?_
  rintro E S hk ⟨i,hi,h0,h1,h5,hp⟩
  have hn:S.n=20:=by first | (simpa using hk.n)|(have hh:=hk.n;simp at hh;exact hh)
  have hg:S.gl=gl:=by first | (simpa using hk.gl)|(have hh:=hk.gl;simp at hh;exact hh)
  have hmd:S.md=[]:=by first | (simpa using hk.md)|(have hh:=hk.md;simp at hh;exact hh)
  simp[h0,h5,hn,hg]
  have w:=wrap64 (n:=(i:Int)+1) (by omega) (by omega)
  refine BrT.dec (fun c=>?_) (fun c=>?_)
  · have hi2:i<l.length:=by omega
    have hlen:=defs_len l
    have hfit:i*4+4≤l.length*4:=by omega
    have hat:=defs_at l hi2
    have hfound:=atD_found hi2 hp
    have hnext:l[i].name≠s→∀ j (hj:j<l.length),j<i+1→l[j].name≠s:=fun hne j hj hji=>by
      by_cases e:j=i
      · subst e;exact hne
      · exact hp j hj (by omega)
    generalize l[i]=d at hat hfound hnext
    obtain⟨nm,kind,flds,words⟩:=d
    simp only[Def.cells] at hat
    simp only at hfound hnext
    have hz0:(defsCells l)[i*4]?=some (dS nm):=by
      have e:(((defsCells l).drop (i*4)).take 4)[0]?=some (dS nm):=by rw[hat];rfl
      rw[List.getElem?_take_of_lt (by omega),List.getElem?_drop] at e
      exact e
    have hg0:=(List.getElem?_eq_some_iff.1 hz0).2
    simp[h0,h1,h5,hn,hg,c,hlen,hg0]
    refine BrT.dec (fun e=>?_) (fun e=>?_)
    · have hz:atZ l s=i:=by unfold atZ;rw[hfound e]
      simp[h5,hn,e,hz]
    · simp[h0,h1,h5,hn,w,e]
      exact⟨⟨i+1,hi2,by omega,hnext e⟩,upTo_lt h5 (by simp) hi2⟩
  · have hno:=atD_none fun j hj=>hp j hj (by omega)
    have hz:atZ l s = -1:=by unfold atZ;rw[hno]
    simp[hn,c,hz]
set_option maxHeartbeats 2000000 in
theorem p_l2Base (v:Typ) (d:Nat) (hv:typB v d=true):PCall Tryz.prog gl 79 [v.d] (dS (baseT v)):=by
  cases hv0:v with
  | mk t0 l0 b0 =>
  refine PCall.by_ (md:=[]) Tryz.func79 rfl (by kernel_rfl) (n:=13) Tryz.ntmps79 (by simp) (by decide) rfl ?_
  simp[Typ.cells]
  refine LoopT.round (fun E S=>∃ (t:ByteArray) (l:List Typ) (b:Bool) (e:Nat),E 1=some (.op 0 0)∧S.B 0=some ([.d (dS t), .d (typsD l), .d (dB b)])∧(baseT (.mk t l b)=baseT (.mk t0 l0 b0))∧(typB (.mk t l b) e=true)∧(1≤S.nx)) (fun E S=>match S.B 0 with | some [_, .d (.ps cs _),_]=>SizeOf.sizeOf cs | _=>0) ⟨t0,l0,b0,d,by simp;rw[← hv0];exact hv⟩ ?_
  rintro E S hk ⟨t,l,b,e,h1,hB0,hb,hd,hx⟩
  have hn:S.n=13:=by first | (simpa using hk.n)|(have hh:=hk.n;simp[Typ.cells] at hh;exact hh)
  have hg:S.gl=gl:=by first | (simpa using hk.gl)|(have hh:=hk.gl;simp[Typ.cells] at hh;exact hh)
  have hmd:S.md=[]:=by first | (simpa using hk.md)|(have hh:=hk.md;simp[Typ.cells] at hh;exact hh)
  simp[h1,hB0,hn]
  cases e with
  | zero=>simp[typB] at hd
  | succ e =>
  unfold typB at hd
  by_cases ht:t=noS
  · rw[if_pos ht] at hd
    match l,hd with
    | [],hd=>simp at hd
    | x::y::r,hd=>simp at hd
    | [x],hd =>
      simp only at hd
      cases hx2:x with
      | mk t2 l2 b2 =>
      subst ht
      rw[hx2,baseT_of] at hb
      rw[hx2] at hd
      subst hx2
      simp[h1,hB0,hn,Typ.cells,typsCells]
      refine⟨⟨t2,l2,?_⟩,by omega⟩
      cases b2 with
      | false=>exact .inl ⟨⟨rfl,⟨rfl,rfl⟩,rfl⟩,hb,e,hd⟩
      | true=>exact .inr ⟨⟨rfl,⟨rfl,rfl⟩,rfl⟩,hb,e,hd⟩
  · rw[if_neg ht,Bool.and_eq_true] at hd
    have hl:l=[]:=List.eq_nil_of_length_eq_zero (by simpa using hd.2)
    subst hl
    rw[baseT_name ht] at hb
    simp[h1,hB0,hn]
    rw[← hb]
theorem p_l2Own (s:ByteArray):PCall Tryz.prog gl 117 [dS s] (dB (groundB s)):=by
  refine PCall.by_ (md:=[]) Tryz.func117 rfl (by kernel_rfl) (n:=17) Tryz.ntmps117 (by simp) (by decide) rfl ?_
  simp
  repeat' first
    | (refine BrT.dec (fun h=>?_) (fun h=>?_)<;>simp[h])
  all_goals (unfold groundB;simp[*])
def kindZ (l:List Def) (s:ByteArray):Int:=if groundB s=true then 0 else if atZ l s<0 then -1 else kindL l s
set_option maxHeartbeats 2000000 in
theorem p_l2Kind (l:List Def) (s:ByteArray) (hl:l.length≤4611686018427387904):PCall Tryz.prog gl 56 [defsD l,dS s] (dI (kindZ l s)):=by
  refine PCall.by_ (md:=[]) Tryz.func56 rfl (by kernel_rfl) (n:=20) Tryz.ntmps56 (by simp) (by decide) rfl ?_
  simp[kindZ]
  repeat refine⟨DrawT.mk (by kernel_rfl),?_⟩
  refine CallT.p0 (p_l2At l s hl) (by first | rfl | (simp;done)|(simp[kindZ];done)) (by first | rfl | (simp;done)|(simp;rfl)|(simp[kindZ];done)) ?_
  simp
  repeat refine⟨DrawT.mk (by kernel_rfl),?_⟩
  refine CallT.p0 (p_l2Own s) (by first | rfl | (simp;done)|(simp[kindZ];done)) (by first | rfl | (simp;done)|(simp;rfl)|(simp[kindZ];done)) ?_
  simp
  refine BrT.mk (fun g=>?_) (fun g=>?_)
  · simp[g]
  simp[g]
  cases ha:atD l s with
  | none =>
    have hz:atZ l s = -1:=by unfold atZ;rw[ha]
    simp[hz]
  | some i =>
    have hz:atZ l s=i:=by unfold atZ;rw[ha]
    have hi2:=atD_lt ha
    have hk:kindL l s=l[i].kind:=by rw[kindL,defL_some ha]
    have hlen:=defs_len l
    have hfit:i*4+4≤l.length*4:=by omega
    have hat:=defs_at l hi2
    generalize l[i]=d at hat hk
    have hz1:(defsCells l)[i*4+1]?=some (dI d.kind):=by
      have e:(((defsCells l).drop (i*4)).take 4)[1]?=some (dI d.kind):=by rw[hat];rfl
      rw[List.getElem?_take_of_lt (by omega),List.getElem?_drop] at e
      exact e
    have hneg:¬ ((i:Int)<0):=by omega
    simp[hi2,hz1,hz,hk,hneg]
def goesB (l:List Def) (s:ByteArray) (inn:Bool):Bool:=decide (kindZ l s=0) || decide (kindZ l s=2) || (inn&&decide (kindZ l s=3)) || (!inn&&(decide (kindZ l s=1) || decide (kindZ l s=4)))
set_option maxHeartbeats 4000000 in
theorem p_l2Goes (l:List Def) (s:ByteArray) (inn:Bool) (hl:l.length≤4611686018427387904):PCall Tryz.prog gl 78 [defsD l,dS s,dB inn] (dB (goesB l s inn)):=by
  have hk:=p_l2Kind (gl:=gl) l s hl
  have hg:goesB l s inn=(decide (kindZ l s=0) || decide (kindZ l s=2) || (inn&&decide (kindZ l s=3)) || (!inn&&(decide (kindZ l s=1) || decide (kindZ l s=4)))):=rfl
  rw[hg]
  generalize kindZ l s=z at hk
  refine PCall.by_ (md:=[]) Tryz.func78 rfl (by kernel_rfl) (n:=36) Tryz.ntmps78 (by simp) (by decide) rfl ?_
  simp
  repeat refine⟨DrawT.mk (by kernel_rfl),?_⟩
  refine CallT.p0 (hk) (by first | rfl | (simp;done)|(simp;done)) (by first | rfl | (simp;done)|(simp;rfl)|(simp;done)) ?_
  simp
  cases inn
  all_goals
    simp
    repeat' first
      | (refine BrT.dec (fun h=>?_) (fun h=>?_)<;>simp[*])
theorem row_sub {α:Type}{cs l:List α}{w b:Nat} (h:(cs.drop b).take w=l) (o k:Nat) (hk:o+k≤w):(cs.drop (b+o)).take k=(l.drop o).take k:=by
  rw[← h,List.drop_take,List.drop_drop,List.take_take]
  congr 1;omega
theorem row_sub0 {α:Type}{cs l:List α}{w b:Nat} (h:(cs.drop b).take w=l) (k:Nat) (hk:k≤w):(cs.drop b).take k=l.take k:=by
  rw[← h,List.take_take]
  congr 1;omega
theorem row_get {α:Type}{cs l:List α}{w b:Nat} (h:(cs.drop b).take w=l) (o:Nat) (ho:o<w) {x:α} (hx:l[o]?=some x):cs[b+o]?=some x:=by
  rw[← hx, ← h,List.getElem?_take_of_lt ho,List.getElem?_drop]
theorem row_get0 {α:Type}{cs l:List α}{w b:Nat} (h:(cs.drop b).take w=l) (ho:0<w) {x:α} (hx:l[0]?=some x):cs[b]?=some x:=row_get h 0 ho hx
theorem zero_ok {v:Val} (h:isZero v=true):okB v 3 true=true:=by
  rw[isZero_iff.1 h];decide
theorem p_l2Type3 (v:Typ) (hv:TLe 4611686018427387904 v):PCall Tryz.prog gl 77 [v.d,dI 3] (dB (typB v 3)):=p_l2Type v hv 2 (by omega)
set_option maxHeartbeats 2000000 in
theorem p_l1Same0 (v:Val) (hv:WF v):PCall Tryz.prog gl 158 [v.d,(Val.mk 0 0 noS [] []).d] (dB (isZero v)):=by
  match v,hv with
  | .mk k n t l ns, .mk ht hn hl _ =>
  have hz:isZero (.mk k n t l ns)=(decide (k=0)&&decide (n=0)&&decide (t=noS)&&decide (l.length=0)&&decide (ns.length=0)):=rfl
  refine PCall.by_ (md:=[]) Tryz.func158 rfl (by kernel_rfl) (n:=81) Tryz.ntmps158 (by simp) (by decide) rfl ?_
  simp[Val.cells,hz]
  refine BrT.dec (fun c1=>?_) (fun c1=>?_)
  case refine_2=>simp[c1]
  simp[c1]
  refine BrT.dec (fun c2=>?_) (fun c2=>?_)
  case refine_2=>simp[c2]
  simp[c2]
  refine BrT.dec (fun c3=>?_) (fun c3=>?_)
  case refine_2=>simp[c3]
  simp[c3]
  refine BrT.dec (fun c4=>?_) (fun c4=>?_)
  case refine_2=>simp[c4]
  simp[c4]
  refine BrT.dec (fun c5=>?_) (fun c5=>?_)
  case refine_2=>simp[c5]
  simp[c5]
  refine LoopT.rounds 1 ?_
  simp[RndT_succ]
  refine LoopT.rounds 1 ?_
  simp[RndT_succ]
theorem memB_take {x:ByteArray}{l:List ByteArray}{i:Nat} (hi:i<l.length) (h:memB x (l.take i)=false) (hn:¬ l[i]=x):memB x (l.take (i+1))=false:=by
  unfold memB at h ⊢
  rw[List.take_succ_eq_append_getElem hi,List.any_append,h]
  simp
  exact fun e=>hn e.symm
theorem memB_at {x:ByteArray}{l:List ByteArray}{i:Nat} (hi:i<l.length) (h:l[i]=x):memB x l=true:=memB_iff.2 (h▸List.getElem_mem hi)
set_option maxHeartbeats 2000000 in
theorem p_l2Has (l:List ByteArray) (s:ByteArray) (hl:l.length≤4611686018427387904):PCall Tryz.prog gl 126 [namesD l,dS s] (dB (memB s l)):=by
  refine PCall.by_ (md:=[]) Tryz.func126 rfl (by kernel_rfl) (n:=18) Tryz.ntmps126 (by simp) (by decide) rfl ?_
  simp
  refine LoopT.round (fun E S=>∃ (i:Nat),(i≤l.length)∧E 0=some (.d (namesD l))∧E 1=some (.d (dS s))∧E 5=some (.d (dI i))∧(memB s (l.take i)=false)) (upTo 5 l.length) ⟨0,by simp;rfl⟩ ?_
  rintro E S hk ⟨i,hi,h0,h1,h5,hp⟩
  have hn:S.n=18:=by first | (simpa using hk.n)|(have hh:=hk.n;simp at hh;exact hh)
  have hg:S.gl=gl:=by first | (simpa using hk.gl)|(have hh:=hk.gl;simp at hh;exact hh)
  have hmd:S.md=[]:=by first | (simpa using hk.md)|(have hh:=hk.md;simp at hh;exact hh)
  simp[h0,h5,hn,hg]
  have w:=wrap64 (n:=(i:Int)+1) (by omega) (by omega)
  refine BrT.dec (fun c=>?_) (fun c=>?_)
  · have hi2:i<l.length:=by omega
    simp[h0,h1,h5,hn,hg,c]
    refine BrT.dec (fun e=>?_) (fun e=>?_)
    · have hq:=memB_at hi2 e
      simp[hn,e,hq]
    · have hq:=memB_take hi2 hp e
      simp[h0,h1,h5,hn,w,e]
      exact⟨⟨i+1,hi2,by omega,hq⟩,upTo_lt h5 (by simp) hi2⟩
  · rw[List.take_of_length_le (by omega)] at hp
    simp[hn,c,hp]
end Go.Proofs.YtlmpjblmmpddeaaGreat
