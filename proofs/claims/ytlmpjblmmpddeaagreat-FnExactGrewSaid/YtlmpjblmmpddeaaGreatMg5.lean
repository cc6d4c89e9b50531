/- ShFacts and what follows it, one behind another. -/
import Derived.Test.YtlmpjblmmpddeaaGreatMg4
import Derived.Test.YtlmpjblmmpddeaaGreatProg
set_option linter.unusedVariables false
set_option linter.unusedSimpArgs false
set_option maxRecDepth 100000
namespace Go.Proofs.YtlmpjblmmpddeaaGreat
open Go.Sh
@[simp] theorem szOf_3:szOf Tryz.prog 3=some (1):=by kernel_rfl
@[simp] theorem loadG_3 {α:Type} (mk:List α→α) (cs:List α) (off:Nat):loadG mk Tryz.prog 3 cs off=cs[off]?:=by kernel_rfl
@[simp] theorem szOf_4:szOf Tryz.prog 4=some (1):=by kernel_rfl
@[simp] theorem zeroCellsOf_4:zeroCellsOf Tryz.prog 4=some [.d (.v (.bool false))]:=by kernel_rfl
@[simp] theorem boolNe_4 (a b:Bool):binS Tryz.prog .neq 4 (.bool a) (.bool b)=some (.bool (!(a == b))):=by kernel_rfl
@[simp] theorem loadG_4 {α:Type} (mk:List α→α) (cs:List α) (off:Nat):loadG mk Tryz.prog 4 cs off=cs[off]?:=by kernel_rfl
@[simp] theorem szOf_9:szOf Tryz.prog 9=some (1):=by kernel_rfl
@[simp] theorem isString_9:isString Tryz.prog 9=true:=by kernel_rfl
@[simp] theorem loadG_9 {α:Type} (mk:List α→α) (cs:List α) (off:Nat):loadG mk Tryz.prog 9 cs off=cs[off]?:=by kernel_rfl
@[simp] theorem isSlice_23:isSlice Tryz.prog 23=true:=by kernel_rfl
@[simp] theorem elemOf_23:Sh.elemOf Tryz.prog 23=some (29,4):=by kernel_rfl
@[simp] theorem makeOf_23:makeOf Tryz.prog 23=some ([.d (.v (.string ⟨#[]⟩)), .d (.v (.int .i64 0)), .fl [] 0, .fl [] 0],4,72):=by kernel_rfl
@[simp] theorem loadG_23 {α:Type} (mk:List α→α) (cs:List α) (off:Nat):loadG mk Tryz.prog 23 cs off=cs[off]?:=by kernel_rfl
@[simp] theorem szOf_26:szOf Tryz.prog 26=some (1):=by kernel_rfl
@[simp] theorem isSlice_26:isSlice Tryz.prog 26=true:=by kernel_rfl
@[simp] theorem elemOf_26:Sh.elemOf Tryz.prog 26=some (52,5):=by kernel_rfl
@[simp] theorem makeOf_26:makeOf Tryz.prog 26=some ([.d (.v (.string ⟨#[]⟩)), .fl [] 0, .d (.v (.string ⟨#[]⟩)), .fl [] 0, .d (.v (.bool false))],5,88):=by kernel_rfl
@[simp] theorem loadG_26 {α:Type} (mk:List α→α) (cs:List α) (off:Nat):loadG mk Tryz.prog 26 cs off=cs[off]?:=by kernel_rfl
@[simp] theorem szOf_27:szOf Tryz.prog 27=some (1):=by kernel_rfl
@[simp] theorem isSlice_27:isSlice Tryz.prog 27=true:=by kernel_rfl
@[simp] theorem elemOf_27:Sh.elemOf Tryz.prog 27=some (9,1):=by kernel_rfl
@[simp] theorem appOf_27:appOf Tryz.prog 27=some (9,1,16):=by kernel_rfl
@[simp] theorem makeOf_27:makeOf Tryz.prog 27=some ([.d (.v (.string ⟨#[]⟩))],1,16):=by kernel_rfl
@[simp] theorem zerosOf_27:zerosOf Tryz.prog 27=some ([.v (.string ⟨#[]⟩)],1):=by kernel_rfl
@[simp] theorem loadG_27 {α:Type} (mk:List α→α) (cs:List α) (off:Nat):loadG mk Tryz.prog 27 cs off=cs[off]?:=by kernel_rfl
@[simp] theorem szOf_29:szOf Tryz.prog 29=some (4):=by kernel_rfl
@[simp] theorem zeroCellsOf_29:zeroCellsOf Tryz.prog 29=some [.d (.v (.string ⟨#[]⟩)), .d (.v (.int .i64 0)), .fl [] 0, .fl [] 0]:=by kernel_rfl
@[simp] theorem fieldOf0_29:fieldOf Tryz.prog 29 0=some 0:=by kernel_rfl
@[simp] theorem fieldOf1_29:fieldOf Tryz.prog 29 1=some 1:=by kernel_rfl
@[simp] theorem fieldTy1_29:fieldTy Tryz.prog 29 1=some (3,1):=by kernel_rfl
@[simp] theorem fieldOf2_29:fieldOf Tryz.prog 29 2=some 2:=by kernel_rfl
@[simp] theorem fieldTy2_29:fieldTy Tryz.prog 29 2=some (26,2):=by kernel_rfl
@[simp] theorem fieldOf3_29:fieldOf Tryz.prog 29 3=some 3:=by kernel_rfl
@[simp] theorem loadG_29 {α:Type} (mk:List α→α) (cs:List α) (off:Nat):loadG mk Tryz.prog 29 cs off=if off+4≤cs.length then some (mk ((cs.drop off).take 4)) else none:=by kernel_rfl
@[simp] theorem szOf_30:szOf Tryz.prog 30=some (1):=by kernel_rfl
@[simp] theorem isSlice_30:isSlice Tryz.prog 30=true:=by kernel_rfl
@[simp] theorem elemOf_30:Sh.elemOf Tryz.prog 30=some (32,3):=by kernel_rfl
@[simp] theorem makeOf_30:makeOf Tryz.prog 30=some ([.d (.v (.string ⟨#[]⟩)), .fl [] 0, .d (.v (.bool false))],3,48):=by kernel_rfl
@[simp] theorem loadG_30 {α:Type} (mk:List α→α) (cs:List α) (off:Nat):loadG mk Tryz.prog 30 cs off=cs[off]?:=by kernel_rfl
@[simp] theorem szOf_32:szOf Tryz.prog 32=some (3):=by kernel_rfl
@[simp] theorem zeroCellsOf_32:zeroCellsOf Tryz.prog 32=some [.d (.v (.string ⟨#[]⟩)), .fl [] 0, .d (.v (.bool false))]:=by kernel_rfl
@[simp] theorem fieldOf0_32:fieldOf Tryz.prog 32 0=some 0:=by kernel_rfl
@[simp] theorem fieldOf1_32:fieldOf Tryz.prog 32 1=some 1:=by kernel_rfl
@[simp] theorem fieldOf2_32:fieldOf Tryz.prog 32 2=some 2:=by kernel_rfl
@[simp] theorem loadG_32 {α:Type} (mk:List α→α) (cs:List α) (off:Nat):loadG mk Tryz.prog 32 cs off=if off+3≤cs.length then some (mk ((cs.drop off).take 3)) else none:=by kernel_rfl
@[simp] theorem szOf_34:szOf Tryz.prog 34=some (1):=by kernel_rfl
@[simp] theorem isSlice_34:isSlice Tryz.prog 34=true:=by kernel_rfl
@[simp] theorem elemOf_34:Sh.elemOf Tryz.prog 34=some (36,5):=by kernel_rfl
@[simp] theorem makeOf_34:makeOf Tryz.prog 34=some ([.d (.v (.int .i64 0)), .d (.v (.int .i64 0)), .d (.v (.string ⟨#[]⟩)), .fl [] 0, .fl [] 0],5,80):=by kernel_rfl
@[simp] theorem loadG_34 {α:Type} (mk:List α→α) (cs:List α) (off:Nat):loadG mk Tryz.prog 34 cs off=cs[off]?:=by kernel_rfl
@[simp] theorem szOf_36:szOf Tryz.prog 36=some (5):=by kernel_rfl
@[simp] theorem zeroCellsOf_36:zeroCellsOf Tryz.prog 36=some [.d (.v (.int .i64 0)), .d (.v (.int .i64 0)), .d (.v (.string ⟨#[]⟩)), .fl [] 0, .fl [] 0]:=by kernel_rfl
@[simp] theorem fieldOf0_36:fieldOf Tryz.prog 36 0=some 0:=by kernel_rfl
@[simp] theorem fieldOf1_36:fieldOf Tryz.prog 36 1=some 1:=by kernel_rfl
@[simp] theorem fieldOf2_36:fieldOf Tryz.prog 36 2=some 2:=by kernel_rfl
@[simp] theorem fieldOf3_36:fieldOf Tryz.prog 36 3=some 3:=by kernel_rfl
@[simp] theorem fieldOf4_36:fieldOf Tryz.prog 36 4=some 4:=by kernel_rfl
@[simp] theorem sized_36:sized Tryz.prog 36=true:=by kernel_rfl
@[simp] theorem loadG_36 {α:Type} (mk:List α→α) (cs:List α) (off:Nat):loadG mk Tryz.prog 36 cs off=if off+5≤cs.length then some (mk ((cs.drop off).take 5)) else none:=by kernel_rfl
@[simp] theorem isSlice_42:isSlice Tryz.prog 42=true:=by kernel_rfl
@[simp] theorem elemOf_42:Sh.elemOf Tryz.prog 42=some (92,4):=by kernel_rfl
@[simp] theorem szOf_50:szOf Tryz.prog 50=some (1):=by kernel_rfl
@[simp] theorem isSlice_50:isSlice Tryz.prog 50=true:=by kernel_rfl
@[simp] theorem elemOf_50:Sh.elemOf Tryz.prog 50=some (118,10):=by kernel_rfl
@[simp] theorem makeOf_50:makeOf Tryz.prog 50=some ([.d (.v (.string ⟨#[]⟩)), .d (.v (.string ⟨#[]⟩)), .fl [] 0, .d (.v (.bool false)), .d (.v (.bool false)), .d (.v (.int .i64 0)), .d (.v (.int .i64 0)), .d (.v (.string ⟨#[]⟩)), .fl [] 0, .fl [] 0],10,152):=by kernel_rfl
@[simp] theorem loadG_50 {α:Type} (mk:List α→α) (cs:List α) (off:Nat):loadG mk Tryz.prog 50 cs off=cs[off]?:=by kernel_rfl
@[simp] theorem szOf_52:szOf Tryz.prog 52=some (5):=by kernel_rfl
@[simp] theorem zeroCellsOf_52:zeroCellsOf Tryz.prog 52=some [.d (.v (.string ⟨#[]⟩)), .fl [] 0, .d (.v (.string ⟨#[]⟩)), .fl [] 0, .d (.v (.bool false))]:=by kernel_rfl
@[simp] theorem fieldOf0_52:fieldOf Tryz.prog 52 0=some 0:=by kernel_rfl
@[simp] theorem fieldOf1_52:fieldOf Tryz.prog 52 1=some 1:=by kernel_rfl
@[simp] theorem fieldOf2_52:fieldOf Tryz.prog 52 2=some 2:=by kernel_rfl
@[simp] theorem sized_52:sized Tryz.prog 52=true:=by kernel_rfl
@[simp] theorem loadG_52 {α:Type} (mk:List α→α) (cs:List α) (off:Nat):loadG mk Tryz.prog 52 cs off=if off+5≤cs.length then some (mk ((cs.drop off).take 5)) else none:=by kernel_rfl
@[simp] theorem isSlice_59:isSlice Tryz.prog 59=true:=by kernel_rfl
@[simp] theorem appOf_59:appOf Tryz.prog 59=some (63,3,40):=by kernel_rfl
@[simp] theorem makeOf_59:makeOf Tryz.prog 59=some ([.d (.v (.int .i64 0)), .d (.v (.string ⟨#[]⟩)), .d (.v (.string ⟨#[]⟩))],3,40):=by kernel_rfl
@[simp] theorem zerosOf_59:zerosOf Tryz.prog 59=some ([.v (.int .i64 0), .v (.string ⟨#[]⟩), .v (.string ⟨#[]⟩)],3):=by kernel_rfl
@[simp] theorem zeroCellsOf_63:zeroCellsOf Tryz.prog 63=some [.d (.v (.int .i64 0)), .d (.v (.string ⟨#[]⟩)), .d (.v (.string ⟨#[]⟩))]:=by kernel_rfl
@[simp] theorem placeOf0_63:placeOf Tryz.prog 63 0=some (0,1):=by kernel_rfl
@[simp] theorem placeOf1_63:placeOf Tryz.prog 63 1=some (1,1):=by kernel_rfl
@[simp] theorem placeOf2_63:placeOf Tryz.prog 63 2=some (2,1):=by kernel_rfl
@[simp] theorem sized_63:sized Tryz.prog 63=true:=by kernel_rfl
@[simp] theorem isMap_72:isMap Tryz.prog 72=true:=by kernel_rfl
@[simp] theorem mapOf_72:Sh.mapOf Tryz.prog 72=some 29:=by kernel_rfl
@[simp] theorem loadG_72 {α:Type} (mk:List α→α) (cs:List α) (off:Nat):loadG mk Tryz.prog 72 cs off=cs[off]?:=by kernel_rfl
@[simp] theorem szOf_83:szOf Tryz.prog 83=some (1):=by kernel_rfl
@[simp] theorem zeroCellsOf_83:zeroCellsOf Tryz.prog 83=some [.d (.v (.nilFunc))]:=by kernel_rfl
@[simp] theorem loadG_83 {α:Type} (mk:List α→α) (cs:List α) (off:Nat):loadG mk Tryz.prog 83 cs off=cs[off]?:=by kernel_rfl
@[simp] theorem isSlice_90:isSlice Tryz.prog 90=true:=by kernel_rfl
@[simp] theorem elemOf_90:Sh.elemOf Tryz.prog 90=some (201,5):=by kernel_rfl
@[simp] theorem loadG_90 {α:Type} (mk:List α→α) (cs:List α) (off:Nat):loadG mk Tryz.prog 90 cs off=cs[off]?:=by kernel_rfl
@[simp] theorem fieldOf0_92:fieldOf Tryz.prog 92 0=some 0:=by kernel_rfl
@[simp] theorem fieldOf1_92:fieldOf Tryz.prog 92 1=some 1:=by kernel_rfl
@[simp] theorem fieldOf2_92:fieldOf Tryz.prog 92 2=some 2:=by kernel_rfl
@[simp] theorem fieldOf3_92:fieldOf Tryz.prog 92 3=some 3:=by kernel_rfl
@[simp] theorem loadG_92 {α:Type} (mk:List α→α) (cs:List α) (off:Nat):loadG mk Tryz.prog 92 cs off=if off+4≤cs.length then some (mk ((cs.drop off).take 4)) else none:=by kernel_rfl
@[simp] theorem szOf_118:szOf Tryz.prog 118=some (10):=by kernel_rfl
@[simp] theorem zeroCellsOf_118:zeroCellsOf Tryz.prog 118=some [.d (.v (.string ⟨#[]⟩)), .d (.v (.string ⟨#[]⟩)), .fl [] 0, .d (.v (.bool false)), .d (.v (.bool false)), .d (.v (.int .i64 0)), .d (.v (.int .i64 0)), .d (.v (.string ⟨#[]⟩)), .fl [] 0, .fl [] 0]:=by kernel_rfl
@[simp] theorem fieldOf0_118:fieldOf Tryz.prog 118 0=some 0:=by kernel_rfl
@[simp] theorem fieldOf1_118:fieldOf Tryz.prog 118 1=some 1:=by kernel_rfl
@[simp] theorem fieldOf2_118:fieldOf Tryz.prog 118 2=some 4:=by kernel_rfl
@[simp] theorem fieldOf3_118:fieldOf Tryz.prog 118 3=some 5:=by kernel_rfl
@[simp] theorem sized_118:sized Tryz.prog 118=true:=by kernel_rfl
@[simp] theorem loadG_118 {α:Type} (mk:List α→α) (cs:List α) (off:Nat):loadG mk Tryz.prog 118 cs off=if off+10≤cs.length then some (mk ((cs.drop off).take 10)) else none:=by kernel_rfl
@[simp] theorem nilEqN_144:evalNil Tryz.prog .eql 144 (.d (.v .nilIface)) .nilIface=some (.d (.v (.bool true))):=by kernel_rfl
@[simp] theorem nilEqI_144 (t:TypeId) (x:D):evalNil Tryz.prog .eql 144 (.d (.ifc t x)) .nilIface=some (.d (.v (.bool false))):=by kernel_rfl
@[simp] theorem isIface_146:isIface Tryz.prog 146=some (false):=by kernel_rfl
@[simp] theorem concrete_146:concrete Tryz.prog 146=true:=by kernel_rfl
@[simp] theorem zeroS_146:zeroS Tryz.prog 146=some (.d (.v (.string ⟨#[]⟩))):=by kernel_rfl
@[simp] theorem isIface_147:isIface Tryz.prog 147=some (false):=by kernel_rfl
@[simp] theorem concrete_147:concrete Tryz.prog 147=true:=by kernel_rfl
@[simp] theorem zeroS_147:zeroS Tryz.prog 147=some (.d (.v (.string ⟨#[]⟩))):=by kernel_rfl
@[simp] theorem szOf_158:szOf Tryz.prog 158=some (8):=by kernel_rfl
@[simp] theorem zeroCellsOf_158:zeroCellsOf Tryz.prog 158=some [.d (.v (.string ⟨#[]⟩)), .d (.v (.int .i64 0)), .fl [] 0, .fl [] 0, .d (.v (.string ⟨#[]⟩)), .d (.v (.int .i64 0)), .fl [] 0, .fl [] 0]:=by kernel_rfl
@[simp] theorem fieldOf0_158:fieldOf Tryz.prog 158 0=some 0:=by kernel_rfl
@[simp] theorem placeOf0_158:placeOf Tryz.prog 158 0=some (0,4):=by kernel_rfl
@[simp] theorem fieldOf1_158:fieldOf Tryz.prog 158 1=some 4:=by kernel_rfl
@[simp] theorem placeOf1_158:placeOf Tryz.prog 158 1=some (4,4):=by kernel_rfl
@[simp] theorem sized_158:sized Tryz.prog 158=true:=by kernel_rfl
@[simp] theorem loadG_158 {α:Type} (mk:List α→α) (cs:List α) (off:Nat):loadG mk Tryz.prog 158 cs off=if off+8≤cs.length then some (mk ((cs.drop off).take 8)) else none:=by kernel_rfl
@[simp] theorem loadG_159 {α:Type} (mk:List α→α) (cs:List α) (off:Nat):loadG mk Tryz.prog 159 cs off=cs[off]?:=by kernel_rfl
@[simp] theorem isSlice_160:isSlice Tryz.prog 160=true:=by kernel_rfl
@[simp] theorem elemOf_160:Sh.elemOf Tryz.prog 160=some (159,1):=by kernel_rfl
@[simp] theorem makeOf_160:makeOf Tryz.prog 160=some ([.d (.v (.nilFunc))],1,8):=by kernel_rfl
@[simp] theorem zerosOf_160:zerosOf Tryz.prog 160=some ([.v (.nilFunc)],1):=by kernel_rfl
@[simp] theorem szOf_168:szOf Tryz.prog 168=some (10):=by kernel_rfl
@[simp] theorem zeroCellsOf_168:zeroCellsOf Tryz.prog 168=some [.d (.v (.int .i64 0)), .d (.v (.int .i64 0)), .d (.v (.string ⟨#[]⟩)), .fl [] 0, .fl [] 0, .d (.v (.int .i64 0)), .d (.v (.int .i64 0)), .d (.v (.string ⟨#[]⟩)), .fl [] 0, .fl [] 0]:=by kernel_rfl
@[simp] theorem fieldOf0_168:fieldOf Tryz.prog 168 0=some 0:=by kernel_rfl
@[simp] theorem placeOf0_168:placeOf Tryz.prog 168 0=some (0,5):=by kernel_rfl
@[simp] theorem fieldOf1_168:fieldOf Tryz.prog 168 1=some 5:=by kernel_rfl
@[simp] theorem placeOf1_168:placeOf Tryz.prog 168 1=some (5,5):=by kernel_rfl
@[simp] theorem sized_168:sized Tryz.prog 168=true:=by kernel_rfl
@[simp] theorem loadG_168 {α:Type} (mk:List α→α) (cs:List α) (off:Nat):loadG mk Tryz.prog 168 cs off=if off+10≤cs.length then some (mk ((cs.drop off).take 10)) else none:=by kernel_rfl
@[simp] theorem isSlice_169:isSlice Tryz.prog 169=true:=by kernel_rfl
@[simp] theorem elemOf_169:Sh.elemOf Tryz.prog 169=some (168,10):=by kernel_rfl
@[simp] theorem makeOf_169:makeOf Tryz.prog 169=some ([.d (.v (.int .i64 0)), .d (.v (.int .i64 0)), .d (.v (.string ⟨#[]⟩)), .fl [] 0, .fl [] 0, .d (.v (.int .i64 0)), .d (.v (.int .i64 0)), .d (.v (.string ⟨#[]⟩)), .fl [] 0, .fl [] 0],10,160):=by kernel_rfl
@[simp] theorem zerosOf_169:zerosOf Tryz.prog 169=some ([.v (.int .i64 0), .v (.int .i64 0), .v (.string ⟨#[]⟩), .ps [] 0, .ps [] 0, .v (.int .i64 0), .v (.int .i64 0), .v (.string ⟨#[]⟩), .ps [] 0, .ps [] 0],10):=by kernel_rfl
@[simp] theorem isIface_180:isIface Tryz.prog 180=some (false):=by kernel_rfl
@[simp] theorem zeroCellsOf_180:zeroCellsOf Tryz.prog 180=some []:=by kernel_rfl
@[simp] theorem sized_180:sized Tryz.prog 180=true:=by kernel_rfl
@[simp] theorem isIface_181:isIface Tryz.prog 181=some (false):=by kernel_rfl
@[simp] theorem isIface_182:isIface Tryz.prog 182=some (false):=by kernel_rfl
@[simp] theorem isIface_183:isIface Tryz.prog 183=some (false):=by kernel_rfl
@[simp] theorem isIface_184:isIface Tryz.prog 184=some (false):=by kernel_rfl
@[simp] theorem isIface_186:isIface Tryz.prog 186=some (false):=by kernel_rfl
@[simp] theorem zeroCellsOf_186:zeroCellsOf Tryz.prog 186=some [.fl [] 0, .fl [] 0]:=by kernel_rfl
@[simp] theorem placeOf0_186:placeOf Tryz.prog 186 0=some (0,1):=by kernel_rfl
@[simp] theorem fieldOf1_186:fieldOf Tryz.prog 186 1=some 1:=by kernel_rfl
@[simp] theorem placeOf1_186:placeOf Tryz.prog 186 1=some (1,1):=by kernel_rfl
@[simp] theorem sized_186:sized Tryz.prog 186=true:=by kernel_rfl
@[simp] theorem isSlice_196:isSlice Tryz.prog 196=true:=by kernel_rfl
@[simp] theorem elemOf_196:Sh.elemOf Tryz.prog 196=some (248,10):=by kernel_rfl
@[simp] theorem loadG_196 {α:Type} (mk:List α→α) (cs:List α) (off:Nat):loadG mk Tryz.prog 196 cs off=cs[off]?:=by kernel_rfl
@[simp] theorem isSlice_197:isSlice Tryz.prog 197=true:=by kernel_rfl
@[simp] theorem elemOf_197:Sh.elemOf Tryz.prog 197=some (199,3):=by kernel_rfl
@[simp] theorem loadG_197 {α:Type} (mk:List α→α) (cs:List α) (off:Nat):loadG mk Tryz.prog 197 cs off=cs[off]?:=by kernel_rfl
@[simp] theorem fieldOf0_199:fieldOf Tryz.prog 199 0=some 0:=by kernel_rfl
@[simp] theorem fieldOf1_199:fieldOf Tryz.prog 199 1=some 1:=by kernel_rfl
@[simp] theorem fieldOf2_199:fieldOf Tryz.prog 199 2=some 2:=by kernel_rfl
@[simp] theorem loadG_199 {α:Type} (mk:List α→α) (cs:List α) (off:Nat):loadG mk Tryz.prog 199 cs off=if off+3≤cs.length then some (mk ((cs.drop off).take 3)) else none:=by kernel_rfl
@[simp] theorem fieldOf0_201:fieldOf Tryz.prog 201 0=some 0:=by kernel_rfl
@[simp] theorem fieldOf1_201:fieldOf Tryz.prog 201 1=some 1:=by kernel_rfl
@[simp] theorem fieldOf2_201:fieldOf Tryz.prog 201 2=some 2:=by kernel_rfl
@[simp] theorem loadG_201 {α:Type} (mk:List α→α) (cs:List α) (off:Nat):loadG mk Tryz.prog 201 cs off=if off+5≤cs.length then some (mk ((cs.drop off).take 5)) else none:=by kernel_rfl
@[simp] theorem isSlice_244:isSlice Tryz.prog 244=true:=by kernel_rfl
@[simp] theorem elemOf_244:Sh.elemOf Tryz.prog 244=some (246,5):=by kernel_rfl
@[simp] theorem loadG_244 {α:Type} (mk:List α→α) (cs:List α) (off:Nat):loadG mk Tryz.prog 244 cs off=cs[off]?:=by kernel_rfl
@[simp] theorem fieldOf0_246:fieldOf Tryz.prog 246 0=some 0:=by kernel_rfl
@[simp] theorem fieldOf1_246:fieldOf Tryz.prog 246 1=some 1:=by kernel_rfl
@[simp] theorem fieldOf2_246:fieldOf Tryz.prog 246 2=some 2:=by kernel_rfl
@[simp] theorem fieldOf3_246:fieldOf Tryz.prog 246 3=some 3:=by kernel_rfl
@[simp] theorem fieldOf4_246:fieldOf Tryz.prog 246 4=some 4:=by kernel_rfl
@[simp] theorem loadG_246 {α:Type} (mk:List α→α) (cs:List α) (off:Nat):loadG mk Tryz.prog 246 cs off=if off+5≤cs.length then some (mk ((cs.drop off).take 5)) else none:=by kernel_rfl
@[simp] theorem fieldOf0_248:fieldOf Tryz.prog 248 0=some 0:=by kernel_rfl
@[simp] theorem fieldOf1_248:fieldOf Tryz.prog 248 1=some 1:=by kernel_rfl
@[simp] theorem fieldOf2_248:fieldOf Tryz.prog 248 2=some 4:=by kernel_rfl
@[simp] theorem fieldOf3_248:fieldOf Tryz.prog 248 3=some 5:=by kernel_rfl
@[simp] theorem loadG_248 {α:Type} (mk:List α→α) (cs:List α) (off:Nat):loadG mk Tryz.prog 248 cs off=if off+10≤cs.length then some (mk ((cs.drop off).take 10)) else none:=by kernel_rfl
end Go.Proofs.YtlmpjblmmpddeaaGreat
namespace Go.Proofs.YtlmpjblmmpddeaaGreat
open Go.Sh
variable {gl:Nat→Option D}
abbrev dI (n:Int):D:=.v (.int .i64 n)
abbrev dB (b:Bool):D:=.v (.bool b)
abbrev dS (s:ByteArray):D:=.v (.string s)
abbrev dY (n:Int):D:=.v (.int .u8 n)
theorem wrap64 {n:Int} (h : -9223372036854775808≤n) (h':n≤9223372036854775807):IntKind.i64.wrap n=n:=by rw[IntKind.wrap_i64];omega
@[simp] theorem wrap_lit (n:Int) (h : -9223372036854775808≤n) (h':n≤9223372036854775807):IntKind.i64.wrap n=n:=wrap64 h h'
def allTo (p:Nat→Bool) (n:Nat):Bool:=(List.range n).all p
theorem allTo_true {p:Nat→Bool}{n:Nat} (h:∀ j,j<n→p j=true):allTo p n=true:=List.all_eq_true.2 fun j hj=>h j (List.mem_range.1 hj)
theorem allTo_false {p:Nat→Bool}{n i:Nat} (hi:i<n) (h:p i=false):allTo p n=false:=by
  cases hb:allTo p n with
  | false=>rfl
  | true=>have:=List.all_eq_true.1 hb i (List.mem_range.2 hi);rw[h] at this;cases this
theorem allTo_iff {p:Nat→Bool}{n:Nat}:allTo p n=true↔∀ j,j<n→p j=true :=
  ⟨fun h j hj=>List.all_eq_true.1 h j (List.mem_range.2 hj),allTo_true⟩
theorem next_all {p:Nat→Bool}{i:Nat} (hp:∀ j,j<i→p j=true) (h:p i=true):∀ j,j<i+1→p j=true:=fun j hj=>by
  rcases Nat.lt_or_ge j i with h1 | h1
  · exact hp j h1
  · have:j=i:=by omega
    subst this;exact h
abbrev namesD (l:List ByteArray):D:=.ps (l.map dS) l.length
def NamesOk (l:List ByteArray):Prop:=l.length≤4611686018427387903∧∀ s∈l,s.size≤4611686018427387904
def upTo (k n:Nat) (E:Env) (S:St):Nat:=match E k with | some (.d (.v (.int _ i)))=>n - i.toNat | _=>0
theorem upTo_lt {k n i:Nat}{E E':Env}{S S':St} (h:E k=some (.d (dI i))) (h':E' k=some (.d (dI ((i:Int)+1)))) (hi:i<n):upTo k n E' S'<upTo k n E S:=by
  unfold upTo
  rw[h,h']
  simp only
  omega
section
variable {α β:Type}{enc:α→List β}{k:Nat}
theorem row_len (h:∀ x,(enc x).length=k):∀ l:List α,(l.flatMap enc).length=l.length*k
  | []=>by simp
  | x::r=>by rw[List.flatMap_cons,List.length_append,h x,row_len h r,List.length_cons,Nat.add_mul];omega
theorem row_drop (h:∀ x,(enc x).length=k):∀ (l:List α) (i:Nat),(l.flatMap enc).drop (i*k)=(l.drop i).flatMap enc
  | [],i=>by simp
  | x::r,0=>by simp
  | x::r,i+1=>by
    rw[List.flatMap_cons,List.drop_succ_cons, ← row_drop h r i,Nat.add_mul,Nat.one_mul,List.drop_append,h x]
    rw[List.drop_eq_nil_of_le (by rw[h x];omega),List.nil_append]
    congr 1;omega
theorem row_at (h:∀ x,(enc x).length=k) (l:List α) (i:Nat) (hi:i<l.length):((l.flatMap enc).drop (i*k)).take k=enc l[i]:=by
  rw[row_drop h,List.drop_eq_getElem_cons hi,List.flatMap_cons,List.take_append,h]
  rw[List.take_of_length_le (by rw[h];omega)]
  simp
def filled (enc:α→List β) (z:List β) (l:List α) (i:Nat):List β:=(l.take i).flatMap enc++(List.replicate (l.length - i) z).flatten
variable {z:List β}
theorem zeros_len (hz:z.length=k) (n:Nat):((List.replicate n z).flatten).length=n*k:=by
  simp[List.length_flatten,hz]
theorem filled_len (h:∀ x,(enc x).length=k) (hz:z.length=k) (l:List α) {i:Nat} (hi:i≤l.length):(filled enc z l i).length=l.length*k:=by
  unfold filled
  rw[List.length_append,row_len h,zeros_len hz,List.length_take, ← Nat.add_mul]
  congr 1;omega
theorem filled_next (h:∀ x,(enc x).length=k) (hz:z.length=k) (l:List α) {i:Nat} (hi:i<l.length):(filled enc z l i).take (i*k)++enc l[i]++(filled enc z l i).drop (i*k+k)=filled enc z l (i+1):=by
  have e1:((l.take i).flatMap enc).length=i*k:=by rw[row_len h,List.length_take];congr 1;omega
  unfold filled
  rw[List.take_append,List.drop_append,e1]
  rw[List.take_of_length_le (by omega),Nat.sub_self,List.take_zero,List.append_nil,List.drop_eq_nil_of_le (by omega),List.nil_append]
  have e2:i*k+k - i*k=k:=by omega
  have e3:l.length - i=(l.length - (i+1))+1:=by omega
  rw[e2,e3,List.replicate_succ,List.flatten_cons,List.drop_append,hz,Nat.sub_self,List.drop_eq_nil_of_le (by omega),List.nil_append]
  rw[List.take_succ_eq_append_getElem hi,List.flatMap_append]
  simp
theorem filled_all (l:List α):filled enc z l l.length=l.flatMap enc:=by
  unfold filled;simp
theorem filled_none (l:List α):filled enc z l 0=(List.replicate l.length z).flatten:=by
  unfold filled;simp
theorem made_row (d:β) (hz:z.length=k):∀ n:Nat,((List.range (n*k)).map fun j=>z.getD (j % k) d)=(List.replicate n z).flatten
  | 0=>by simp
  | n+1=>by
    have ih:=made_row d hz n
    rw[List.replicate_succ',List.flatten_append, ← ih,Nat.add_mul,Nat.one_mul,List.range_add,List.map_append]
    congr 1
    simp only[List.map_map,List.flatten_cons,List.flatten_nil,List.append_nil]
    apply List.ext_getElem
    · simp[hz]
    · intro j h1 h2
      simp only[List.length_map,List.length_range] at h1
      simp only[List.getElem_map,List.getElem_range,Function.comp_apply]
      rw[Nat.mul_comm n k,Nat.mul_add_mod,Nat.mod_eq_of_lt h1,List.getD_eq_getElem?_getD,List.getElem?_eq_getElem (by omega)]
      rfl
end
theorem map_flat {α β:Type} (f:α→β) (l:List α):l.map f=l.flatMap fun x=>[f x]:=by
  induction l with
  | nil=>rfl
  | cons x r ih=>simp[ih]
theorem madeS_row (zs:List SV) (n:Nat):madeS zs zs.length n=(List.replicate n zs).flatten:=made_row _ rfl n
@[simp] theorem madeS_one (z:SV) (n:Nat):madeS [z] 1 n=List.replicate n z:=by
  have:=madeS_row [z] n
  simpa using this
abbrev sS (s:ByteArray):List SV:=[.d (dS s)]
theorem sS_row (l:List ByteArray):l.flatMap sS=(l.map dS).map .d:=by
  rw[List.map_map,map_flat];rfl
@[simp] theorem drop_made {α:Type} (f:Nat→α) (n:Nat):((List.range n).map f).drop n=[]:=by simp
def lookN {α:Type}:List (Nat×α)→Nat→Option α
  | [],_=>none
  | (k,v)::r,x=>if x=k then some v else lookN r x
@[simp] theorem lookN_nil {α:Type} (x:Nat):lookN (α:=α) [] x=none:=(rfl)
@[simp] theorem lookN_cons {α:Type} (k:Nat) (v:α) (r:List (Nat×α)) (x:Nat):lookN ((k,v)::r) x=if x=k then some v else lookN r x:=(rfl)
theorem lookN_mem {α:Type}:∀ {L:List (Nat×α)}{x:Nat}{y:α},lookN L x=some y→(x,y)∈L
  | (k,v)::L,x,y,h=>by
    simp only[lookN_cons] at h
    split at h
    · rename_i e
      cases h;subst e
      exact List.mem_cons_self
    · exact List.mem_cons_of_mem _ (lookN_mem h)
def leftF {α:Type} (n:Nat) (f:Nat→Option α) (L:List (Nat×α)) (x:Nat):Option α:=match lookN L x with | some cs=>some cs | none=>if x<n then f x else none
theorem leftF_less {α:Type}{n:Nat}{f g:Nat→Option α}{L:List (Nat×α)} (h1:∀ p∈L,g p.1=some p.2) (h2:∀ x,x<n→lookN L x=none→g x=f x) {x:Nat}{y:α} (h:leftF n f L x=some y):g x=some y:=by
  unfold leftF at h
  split at h
  · rename_i cs' h3
    cases h
    exact h1 _ (lookN_mem h3)
  · rename_i h3
    split at h
    · rename_i h4;rw[h2 x h4 h3];exact h
    · cases h
theorem leftF_old {α:Type}{n:Nat}{f:Nat→Option α}{L:List (Nat×α)}{x:Nat} (h:lookN L x=none) (hx:x<n):leftF n f L x=f x:=by
  unfold leftF;rw[h];exact if_pos hx
def leftS (S:St) (k:Nat) (B:List (Nat×List SV)) (T:List (Nat×(Nat×Nat))):St :=
  { S with B:=leftF S.nx S.B B,T:=leftF S.nx S.T T,nx:=S.nx+k }
theorem leftS_keeps (S:St) (k:Nat) (B:List (Nat×List SV)) (T:List (Nat×(Nat×Nat))):Keeps S (leftS S k B T):=⟨rfl,rfl,rfl,by simp[leftS]⟩
theorem elder_left {S S1:St}{k:Nat}{B:List (Nat×List SV)}{T:List (Nat×(Nat×Nat))} (hB:∀ p∈B,S1.B p.1=some p.2) (hT:∀ p∈T,S1.T p.1=some p.2) (hBl:∀ p∈B,p.1<S.nx+k∧ltS (S.nx+k) p.2=true) (hTl:∀ p∈T,p.1<S.nx+k)
    (hB2:∀ x,x<S.nx→lookN B x=none→S1.B x=S.B x) (hT2:∀ x,x<S.nx→lookN T x=none→S1.T x=S.T x):Elder S (leftS S k B T) S1:=by
  refine⟨rfl,rfl,rfl,Nat.le_add_right _ _,fun b cs h=>?_,fun i p h=>?_,fun b h=>leftF_less hB hB2 h⟩
  · have h1:=leftF_less hB hB2 h
    simp only[leftS,leftF] at h ⊢
    split at h
    · rename_i cs' h3
      cases h
      have:=hBl _ (lookN_mem h3)
      exact⟨this.1,⟨[],by simpa using h1⟩, .inl this.2⟩
    · split at h
      · rename_i h4;exact⟨by omega,⟨[],by simpa using h1⟩, .inr h⟩
      · cases h
  · have h1:=leftF_less hT hT2 h
    simp only[leftS,leftF] at h ⊢
    split at h
    · rename_i cs' h3
      exact⟨hTl _ (lookN_mem h3),h1⟩
    · split at h
      · rename_i h4;exact⟨by omega,h1⟩
      · cases h
@[simp] theorem leftS_n (S:St) (k:Nat) (B:List (Nat×List SV)) (T:List (Nat×(Nat×Nat))):(leftS S k B T).n=S.n:=(rfl)
@[simp] theorem leftS_nx (S:St) (k:Nat) (B:List (Nat×List SV)) (T:List (Nat×(Nat×Nat))):(leftS S k B T).nx=S.nx+k:=(rfl)
@[simp] theorem leftS_B (S:St) (k:Nat) (B:List (Nat×List SV)) (T:List (Nat×(Nat×Nat))) (x:Nat):(leftS S k B T).B x=leftF S.nx S.B B x:=(rfl)
@[simp] theorem leftS_T (S:St) (k:Nat) (B:List (Nat×List SV)) (T:List (Nat×(Nat×Nat))) (x:Nat):(leftS S k B T).T x=leftF S.nx S.T T x:=(rfl)
@[simp] theorem leftF_cons {α:Type} (n:Nat) (f:Nat→Option α) (k:Nat) (v:α) (r:List (Nat×α)) (x:Nat):leftF n f ((k,v)::r) x=if x=k then some v else leftF n f r x:=by
  unfold leftF;simp only[lookN_cons];by_cases h:x=k<;>simp[h]
@[simp] theorem leftF_nil {α:Type} (n:Nat) (f:Nat→Option α) (x:Nat):leftF n f [] x=if x<n then f x else none:=by
  unfold leftF;simp only[lookN_nil]
def Old (S0:St) (bs ts:List Nat) (S:St):Prop:=∀ x,x<S0.nx→(¬ x∈bs→S.B x=S0.B x)∧(¬ x∈ts→S.T x=S0.T x)
section
variable {S0 S:St}{bs ts:List Nat}
theorem Old.refl (S0:St) (bs ts:List Nat):Old S0 bs ts S0:=fun _ _=>⟨fun _=>rfl,fun _=>rfl⟩
theorem Old.more {bs' ts':List Nat} (h:Old S0 bs ts S) (hb:∀ x∈bs,x∈bs') (ht:∀ x∈ts,x∈ts'):Old S0 bs' ts' S :=
  fun x hx=>⟨fun h1=>(h x hx).1 fun h2=>h1 (hb x h2),fun h1=>(h x hx).2 fun h2=>h1 (ht x h2)⟩
@[simp] theorem old_adv {k:Nat}:Old S0 bs ts (S.adv k)=Old S0 bs ts S:=(rfl)
@[simp] theorem old_mk {n nx:Nat}{md:List Nat}{gl:Nat→Option D}:Old S0 bs ts { B:=S0.B,T:=S0.T,n:=n,nx:=nx,md:=md,gl:=gl }=True:=by
  simp[Old]
theorem old_set {q:Nat}{cs:List SV} (h:S0.nx≤q):Old S0 bs ts (S.set q cs)=Old S0 bs ts S:=by
  unfold Old
  refine propext (forall_congr' fun x=>forall_congr' fun hx=>?_)
  simp[show ¬ x=q by omega]
theorem old_new {q:Nat}{cs:List SV} (h:S0.nx≤q):Old S0 bs ts (S.new q cs)=Old S0 bs ts S:=by
  unfold Old
  refine propext (forall_congr' fun x=>forall_congr' fun hx=>?_)
  simp[show ¬ x=q by omega]
theorem old_tip {q k sz:Nat} (h:S0.nx≤q):Old S0 bs ts (S.tipTo q k sz)=Old S0 bs ts S:=by
  unfold Old
  refine propext (forall_congr' fun x=>forall_congr' fun hx=>?_)
  simp[St.tipTo,show ¬ x=q by omega]
theorem old_setIn {q:Nat}{cs:List SV} (h:q∈bs):Old S0 bs ts (S.set q cs)=Old S0 bs ts S:=by
  unfold Old
  refine propext (forall_congr' fun x=>forall_congr' fun hx=>?_)
  by_cases hb:x∈bs
  · simp[hb]
  · simp[hb,show ¬ x=q from fun e=>hb (e▸h)]
theorem old_tipIn {q k sz:Nat} (h:q∈ts):Old S0 bs ts (S.tipTo q k sz)=Old S0 bs ts S:=by
  unfold Old
  refine propext (forall_congr' fun x=>forall_congr' fun hx=>?_)
  by_cases hb:x∈ts
  · simp[hb,St.tipTo]
  · simp[hb,St.tipTo,show ¬ x=q from fun e=>hb (e▸h)]
theorem old_left {k:Nat}{B:List (Nat×List SV)}{T:List (Nat×(Nat×Nat))} (h:S0.nx≤S.nx) (hB:∀ p∈B,p.1∈bs∨S0.nx≤p.1) (hT:∀ p∈T,p.1∈ts∨S0.nx≤p.1) (ho:Old S0 bs ts S):Old S0 bs ts (leftS S k B T):=by
  intro x hx
  refine⟨fun hb=>?_,fun ht=>?_⟩
  · have:lookN B x=none:=by
      cases hl:lookN B x with
      | none=>rfl
      | some y => rcases hB _ (lookN_mem hl) with h1 | h1 <;> simp only at h1
                  · exact absurd h1 hb
                  · omega
    simp only[leftS]
    rw[leftF_old this (by omega)]
    exact (ho x hx).1 hb
  · have:lookN T x=none:=by
      cases hl:lookN T x with
      | none=>rfl
      | some y => rcases hT _ (lookN_mem hl) with h1 | h1 <;> simp only at h1
                  · exact absurd h1 ht
                  · omega
    simp only[leftS]
    rw[leftF_old this (by omega)]
    exact (ho x hx).2 ht
end
theorem elder_old {S0 S1:St}{k:Nat}{B:List (Nat×List SV)}{T:List (Nat×(Nat×Nat))}{bs ts:List Nat} (h:Old S0 bs ts S1) (hB:∀ p∈B,S1.B p.1=some p.2) (hT:∀ p∈T,S1.T p.1=some p.2) (hBl:∀ p∈B,p.1<S0.nx+k∧ltS (S0.nx+k) p.2=true) (hTl:∀ p∈T,p.1<S0.nx+k)
    (hB2:∀ x∈bs,x<S0.nx→lookN B x=none→S1.B x=S0.B x) (hT2:∀ x∈ts,x<S0.nx→lookN T x=none→S1.T x=S0.T x):Elder S0 (leftS S0 k B T) S1 :=
  elder_left hB hT hBl hTl (fun x hx hl=>if hb:x∈bs then hB2 x hb hx hl else (h x hx).1 hb) (fun x hx hl=>if hb:x∈ts then hT2 x hb hx hl else (h x hx).2 hb)
def szGo:List ByteArray→Int→Int
  | [],r=>r
  | s::t,r=>if r - s.size<0 then -1 else szGo t (r - s.size)
def szNames (l:List ByteArray) (left:Int):Int:=if left - l.length<0 then -1 else szGo l (left - l.length)
set_option maxHeartbeats 1000000 in
theorem p_szStringS (l:List ByteArray) (left:Int) (hl:NamesOk l) (h0:0≤left) (hb:left≤4611686018427387904):PCall Tryz.prog gl 128 [namesD l,dI left] (dI (szNames l left)):=by
  refine PCall.by_ (md:=[]) Tryz.func128 rfl (by kernel_rfl) (n:=28) Tryz.ntmps128 (by simp) (by decide) rfl ?_
  have hlen:=hl.1
  have w0:IntKind.i64.wrap (left - l.length)=left - l.length:=wrap64 (by omega) (by omega)
  simp[w0]
  refine BrT.dec (fun h=>?_) (fun h=>?_)
  · have:szNames l left = -1:=if_pos (by omega)
    simp[h,this]
  have hsz:szNames l left=szGo l (left - l.length):=if_neg (by omega)
  simp[h]
  refine LoopT.round (fun E S=>∃ (i:Nat) (r:Int),i≤l.length∧0≤r∧r≤4611686018427387904∧E 0=some (.d (namesD l))∧E 1=some (.d (dI r))∧E 5=some (.d (dI i))∧szGo (l.drop i) r=szNames l left) (upTo 5 l.length) ⟨0,left - l.length,by simp[hsz];omega⟩ ?_
  rintro E S hk ⟨i,r,hi,hr0,hr1,h0,h1,h5,hp⟩
  have hn:S.n=28:=by simpa using hk.n
  have w:IntKind.i64.wrap ((i:Int)+1)=(i:Int)+1:=wrap64 (by omega) (by omega)
  simp[h0,h5,hn]
  refine BrT.dec (fun h=>?_) (fun h=>?_)
  · have hi2:i<l.length:=by omega
    have hs:=hl.2 l[i] (List.getElem_mem hi2)
    have w2:IntKind.i64.wrap (r - l[i].size)=r - l[i].size:=wrap64 (by omega) (by omega)
    have hd:szGo (l.drop i) r=if r - l[i].size<0 then -1 else szGo (l.drop (i+1)) (r - l[i].size):=by
      rw[List.drop_eq_getElem_cons hi2];rfl
    simp[h0,h1,h5,hn,hi2,w2]
    refine BrT.dec (fun he=>?_) (fun he=>?_)
    · rw[hd,if_pos (by omega)] at hp
      simp[hn,he,hp]
    · rw[hd,if_neg (by omega)] at hp
      simp[h0,h5,hn,w,he]
      exact⟨⟨i+1,by omega,r - l[i].size,by omega,by omega,rfl,by omega,hp⟩,upTo_lt h5 (by simp) hi2⟩
  · rw[List.drop_eq_nil_of_le (by omega)] at hp
    simp[h1,hn, ← hp,szGo]
set_option maxHeartbeats 1000000 in
theorem p_toStringS (l:List ByteArray) (hl:l.length≤1048576):PCall Tryz.prog gl 130 [namesD l] (namesD l):=by
  refine PCall.by_ (md:=[]) Tryz.func130 rfl (by kernel_rfl) (n:=22) Tryz.ntmps130 (by simp) (by decide) rfl ?_
  simp
  refine⟨by omega,?_⟩
  refine LoopT.round (fun E S=>∃ i:Nat,i≤l.length∧E 0=some (.d (namesD l))∧E 3=some (.os 3 0 l.length)∧E 4=some (.d (dI i))∧S.B 3=some (filled sS [.d (dS ⟨#[]⟩)] l i)) (upTo 4 l.length) ⟨0,by simp[filled_none]⟩ ?_
  rintro E S hk ⟨i,hi,h0,h3,h4,hB⟩
  have hn:S.n=22:=by simpa using hk.n
  have w:IntKind.i64.wrap ((i:Int)+1)=(i:Int)+1:=wrap64 (by omega) (by omega)
  simp[h0,h4,hn]
  refine BrT.dec (fun h=>?_) (fun h=>?_)
  · have hi2:i<l.length:=by omega
    have hlen:=filled_len (enc:=sS) (z:=[.d (dS ⟨#[]⟩)]) (fun _=>rfl) rfl l hi
    have hnext:=filled_next (enc:=sS) (z:=[.d (dS ⟨#[]⟩)]) (fun _=>rfl) rfl l hi2
    simp only[Nat.mul_one] at hlen hnext
    simp[h0,h3,h4,hn,hi2,hB,w,hlen]
    refine⟨by omega,⟨i+1,by omega,rfl,?_⟩,upTo_lt h4 (by simp) hi2⟩
    rw[← hnext]
    simp
  · have hi3:i=l.length:=by omega
    subst hi3
    rw[filled_all,sS_row] at hB
    simp[h3,hn,hB]
set_option maxHeartbeats 1000000 in
theorem p_eqStringS (l:List ByteArray) (hl:l.length≤4611686018427387904):PCall Tryz.prog gl 137 [namesD l,namesD l] (dB true):=by
  refine PCall.by_ (md:=[]) Tryz.func137 rfl (by kernel_rfl) (n:=26) Tryz.ntmps137 (by simp) (by decide) rfl ?_
  simp
  refine LoopT.round (fun E S=>∃ i:Nat,i≤l.length∧E 0=some (.d (namesD l))∧E 1=some (.d (namesD l))∧E 5=some (.d (dI i))) (upTo 5 l.length) ⟨0,by simp⟩ ?_
  rintro E S hk ⟨i,hi,h0,h1,h5⟩
  have hn:S.n=26:=by simpa using hk.n
  have w:IntKind.i64.wrap ((i:Int)+1)=(i:Int)+1:=wrap64 (by omega) (by omega)
  simp[h0,h5,hn]
  refine BrT.dec (fun h=>?_) (fun h=>?_)
  · have hi2:i<l.length:=by omega
    simp[h0,h1,h5,hn,hi2,w]
    exact⟨DrawT.mk (by kernel_rfl),⟨i+1,by omega,rfl⟩,upTo_lt h5 (by simp) hi2⟩
  · simp[hn]
theorem p_l1In (a b c:Int):PCall Tryz.prog gl 118 [dI a,dI b,dI c] (dB (decide (b≤a)&&decide (a≤c))):=by
  refine PCall.by_ (md:=[]) Tryz.func118 rfl (by kernel_rfl) (n:=15) Tryz.ntmps118 (by simp) (by decide) rfl ?_
  simp
  refine BrT.dec (fun h=>?_) (fun h=>?_)<;>simp[h]
def letterB (n:Int):Bool:=(decide (97≤n)&&decide (n≤122)) || (decide (65≤n)&&decide (n≤90)) || decide (n=95)
def figureB (n:Int):Bool:=decide (48≤n)&&decide (n≤57)
theorem p_l1Letter (n:Int):PCall Tryz.prog gl 159 [dY n] (dB (letterB n)):=by
  refine PCall.by_ (md:=[]) Tryz.func159 rfl (by kernel_rfl) (n:=21) Tryz.ntmps159 (by simp) (by decide) rfl ?_
  simp
  repeat' first
    | (refine BrT.dec (fun h=>?_) (fun h=>?_)<;>simp[h])
  all_goals (unfold letterB;simp[*])
theorem p_l1Figure (n:Int):PCall Tryz.prog gl 160 [dY n] (dB (figureB n)):=by
  refine PCall.by_ (md:=[]) Tryz.func160 rfl (by kernel_rfl) (n:=9) Tryz.ntmps160 (by simp) (by decide) rfl ?_
  simp
  repeat' first
    | (refine BrT.dec (fun h=>?_) (fun h=>?_)<;>simp[h])
  all_goals (unfold figureB;simp[*])
theorem p_isFigure (n:Int):PCall Tryz.prog gl 154 [dY n] (dB (figureB n)):=by
  refine PCall.by_ (md:=[]) Tryz.func154 rfl (by kernel_rfl) (n:=9) Tryz.ntmps154 (by simp) (by decide) rfl ?_
  simp
  repeat' first
    | (refine BrT.dec (fun h=>?_) (fun h=>?_)<;>simp[h])
  all_goals (unfold figureB;simp[*])
theorem p_isWordByte (n:Int):PCall Tryz.prog gl 155 [dY n] (dB (letterB n || figureB n)):=by
  refine PCall.by_ (md:=[]) Tryz.func155 rfl (by kernel_rfl) (n:=25) Tryz.ntmps155 (by simp) (by decide) rfl ?_
  simp
  repeat' first
    | (refine BrT.dec (fun h=>?_) (fun h=>?_)<;>simp[h])
    | (refine CallT.p (p_isFigure _) rfl rfl ?_;simp)
  all_goals (unfold letterB;simp[*])
def nameP (s:ByteArray) (i:Nat):Bool:=letterB (byteI s i) || (!decide (i=0)&&figureB (byteI s i))
def nameB (s:ByteArray):Bool:=allTo (nameP s) s.size&&(decide (1≤(s.size:Int))&&decide ((s.size:Int)≤12))
set_option maxHeartbeats 1000000 in
theorem p_l1Name (s:ByteArray) (hs:s.size≤4611686018427387904):PCall Tryz.prog gl 116 [dS s] (dB (nameB s)):=by
  refine PCall.by_ (md:=[]) Tryz.func116 rfl (by kernel_rfl) (n:=29) Tryz.ntmps116 (by simp) (by decide) rfl ?_
  simp
  refine LoopT.round (fun E S=>∃ i:Nat,i≤s.size∧E 0=some (.d (dS s))∧E 3=some (.d (dI i))∧(∀ j,j<i→nameP s j=true)) (fun E S=>match E 3 with | some (.d (.v (.int _ i)))=>s.size - i.toNat | _=>0) ⟨0,by simp⟩ ?_
  rintro E S hk ⟨i,hi,h0,h3,hp⟩
  have hn:S.n=29:=by simpa using hk.n
  have hg:S.gl=gl:=by simpa using hk.gl
  have w:IntKind.i64.wrap ((i:Int)+1)=(i:Int)+1:=wrap64 (by omega) (by omega)
  simp[h0,h3,hn]
  refine BrT.dec (fun h=>?_) (fun h=>?_)
  · have hi2:i<s.size:=by omega
    simp[h0,h3,hn,hi2]
    refine CallT.p (p_l1Letter _) (by first | rfl | simp[hg]) rfl ?_
    simp[hn]
    have bad:nameP s i=false→nameB s=false:=fun h1=>by rw[nameB,allTo_false hi2 h1];rfl
    refine BrT.mk (fun hl=>?_) (fun hl=>?_)
    · simp[h0,h3,hn,hl,w]
      exact⟨⟨i+1,by omega,rfl,next_all hp (by simp[nameP,hl])⟩,by omega⟩
    · simp[h3,hn,hl]
      refine BrT.dec (fun hz=>?_) (fun hz=>?_)
      · have hq:=bad (by subst hz;simp[nameP,hl])
        simp[hn,hz,hq]
      · simp[h0,h3,hn,hz,hi2]
        refine CallT.p (p_l1Figure _) (by first | rfl | simp[hg]) rfl ?_
        simp[hn]
        refine BrT.mk (fun hf=>?_) (fun hf=>?_)
        · simp[h0,h3,hn,hf,w]
          exact⟨⟨i+1,by omega,rfl,next_all hp (by simp[nameP,hl,hz,hf])⟩,by omega⟩
        · have hq:=bad (by simp[nameP,hl,hz,hf])
          simp[hn,hf,hq]
  · simp[h0,hn]
    have hi3:i=s.size:=by omega
    subst hi3
    refine CallT.p (p_l1In _ _ _) (by first | rfl | simp[hg]) rfl ?_
    simp[nameB,allTo_true hp,hn]
theorem nameB_short {s:ByteArray} (h:(s.size:Int)<1):nameB s=false:=by
  have:¬ (1≤(s.size:Int)):=by omega
  simp[nameB,this]
theorem nameB_long {s:ByteArray} (h:12<(s.size:Int)):nameB s=false:=by
  have:¬ ((s.size:Int)≤12):=by omega
  simp[nameB,this]
theorem not_letter {n:Int} (h:figureB n=true):letterB n=false:=by
  simp only[figureB,letterB,Bool.and_eq_true,Bool.or_eq_false_iff,decide_eq_true_eq,Bool.and_eq_false_iff,decide_eq_false_iff_not] at *
  omega
set_option maxHeartbeats 1000000 in
theorem p_isName (s:ByteArray) (hs:s.size≤4611686018427387904):PCall Tryz.prog gl 101 [dS s] (dB (nameB s)):=by
  refine PCall.by_ (md:=[]) Tryz.func101 rfl (by kernel_rfl) (n:=28) Tryz.ntmps101 (by simp) (by decide) rfl ?_
  simp
  refine BrT.dec (fun h=>?_) (fun h=>?_)
  · simp[h,nameB_short (s:=s) (by omega)]
  have h1:0<s.size:=by omega
  simp[h]
  refine BrT.dec (fun h2=>?_) (fun h2=>?_)
  · simp[h2,nameB_long (s:=s) (by omega)]
  simp[h2,h1]
  refine CallT.p (p_isFigure _) rfl rfl ?_
  simp
  refine BrT.mk (fun hf=>?_) (fun hf=>?_)
  · have:nameB s=false:=by
      rw[nameB,allTo_false h1 (by simp[nameP,not_letter hf])];rfl
    simp[hf,this]
  simp[hf]
  refine LoopT.round (fun E S=>∃ i:Nat,i≤s.size∧E 0=some (.d (dS s))∧E 18=some (.d (dI s.size))∧E 19=some (.d (dI i))∧(∀ j,j<i→nameP s j=true)) (fun E S=>match E 19 with | some (.d (.v (.int _ i)))=>s.size - i.toNat | _=>0) ⟨0,by simp⟩ ?_
  rintro E S hk ⟨i,hi,h0,h18,h19,hp⟩
  have hn:S.n=28:=by simpa using hk.n
  have hg:S.gl=gl:=by simpa using hk.gl
  have w:IntKind.i64.wrap ((i:Int)+1)=(i:Int)+1:=wrap64 (by omega) (by omega)
  simp[h18,h19,hn]
  refine BrT.dec (fun h3=>?_) (fun h3=>?_)
  · have hi2:i<s.size:=by omega
    simp[h0,h19,hn,hi2]
    have key:(letterB (byteI s i) || figureB (byteI s i))=nameP s i:=by
      by_cases hz:i=0
      · subst hz;simp[nameP,hf]
      · simp[nameP,hz]
    have pw:=p_isWordByte (gl:=gl) (byteI s i)
    rw[key] at pw
    refine CallT.p pw (by first | rfl | simp[hg]) rfl ?_
    simp[hn]
    refine BrT.mk (fun hl=>?_) (fun hl=>?_)
    · simp[h0,h18,h19,hn,hl,w]
      exact⟨⟨i+1,by omega,rfl,next_all hp hl⟩,by omega⟩
    · have hq:nameB s=false:=by rw[nameB,allTo_false hi2 hl];rfl
      simp[hn,hl,hq]
  · have hi3:i=s.size:=by omega
    subst hi3
    have c1:(1:Int)≤s.size:=by omega
    have c2:(s.size:Int)≤12:=by omega
    have hq:nameB s=true:=by simp[nameB,allTo_true hp];omega
    simp[hn,hq]
def idxI (x:ByteArray) (l:List ByteArray):Int:=if l.findIdx (fun y=>decide (x=y))<l.length then (l.findIdx (fun y=>decide (x=y)):Int) else -1
theorem idxI_found {x:ByteArray}{l:List ByteArray}{i:Nat} (hi:i<l.length) (h:∀ j (hj:j<l.length),j<i→x≠l[j]) (he:x=l[i]):idxI x l=i:=by
  have e:l.findIdx (fun y=>decide (x=y))=i:=by
    rw[List.findIdx_eq hi]
    exact⟨by simp[he],fun j hj=>by simpa using h j (by omega) hj⟩
  unfold idxI
  rw[e,if_pos hi]
theorem idxI_none {x:ByteArray}{l:List ByteArray} (h:∀ j (hj:j<l.length),x≠l[j]):idxI x l = -1:=by
  unfold idxI
  rw[if_neg]
  intro hlt
  have:=List.findIdx_getElem (w:=hlt)
  simp at this
  exact h _ hlt this
def memB (x:ByteArray) (l:List ByteArray):Bool:=l.any fun y=>decide (x=y)
theorem memB_iff {x:ByteArray}{l:List ByteArray}:memB x l=true↔x∈l:=by
  simp[memB]
theorem idxI_mem {x:ByteArray}{l:List ByteArray}:decide (0≤idxI x l)=memB x l:=by
  by_cases h:x∈l
  · have hlt:l.findIdx (fun y=>decide (x=y))<l.length:=List.findIdx_lt_length_of_exists ⟨x,h,by simp⟩
    rw[memB_iff.2 h]
    unfold idxI
    rw[if_pos hlt]
    simp
  · have:idxI x l = -1:=idxI_none fun j hj e=>h (e▸List.getElem_mem hj)
    have hb:memB x l=false:=by
      cases hb:memB x l with
      | false=>rfl
      | true=>exact absurd (memB_iff.1 hb) h
    rw[this,hb]
    simp
set_option maxHeartbeats 1000000 in
theorem p_Index (l:List ByteArray) (x:ByteArray) (hl:l.length≤4611686018427387904):PCall Tryz.prog gl 157 [namesD l,dS x] (dI (idxI x l)):=by
  refine PCall.by_ (md:=[]) Tryz.func157 rfl (by kernel_rfl) (n:=19) Tryz.ntmps157 (by simp) (by decide) rfl ?_
  simp
  refine LoopT.round (fun E S=>∃ i:Nat,i≤l.length∧E 0=some (.d (namesD l))∧E 1=some (.d (dS x))∧E 7=some (.d (dI l.length))∧E 8=some (.d (dI i))∧(∀ j (hj:j<l.length),j<i→x≠l[j])) (upTo 8 l.length) ⟨0,by simp⟩ ?_
  rintro E S hk ⟨i,hi,h0,h1,h7,h8,hp⟩
  have hn:S.n=19:=by simpa using hk.n
  have w:IntKind.i64.wrap ((i:Int)+1)=(i:Int)+1:=wrap64 (by omega) (by omega)
  simp[h7,h8,hn]
  refine BrT.dec (fun h=>?_) (fun h=>?_)
  · have hi2:i<l.length:=by omega
    simp[h0,h1,h8,hn,hi2]
    refine BrT.dec (fun he=>?_) (fun he=>?_)
    · simp[hn,idxI_found hi2 hp he]
    · simp[h0,h1,h7,h8,hn,w]
      refine⟨⟨i+1,by omega,rfl,fun j hj hji=>?_⟩,upTo_lt h8 (by simp) hi2⟩
      rcases Nat.lt_or_ge j i with c | c
      · exact hp j hj c
      · have:j=i:=by omega
        subst this;exact he
  · have:idxI x l = -1:=idxI_none fun j hj=>hp j hj (by omega)
    simp[hn,this]
theorem p_Contains (l:List ByteArray) (x:ByteArray) (hl:l.length≤4611686018427387904):PCall Tryz.prog gl 113 [namesD l,dS x] (dB (memB x l)):=by
  refine PCall.by_ (md:=[]) Tryz.func113 rfl (by kernel_rfl) (n:=9) Tryz.ntmps113 (by simp) (by decide) rfl ?_
  simp
  refine CallT.p (p_Index l x hl) rfl rfl ?_
  simp
  rw[← idxI_mem]
def nm (l:List ByteArray) (i:Nat):ByteArray:=l.getD i ⟨#[]⟩
theorem nm_at {l:List ByteArray}{i:Nat} (h:i<l.length):l[i]=nm l i:=by
  unfold nm
  rw[List.getD_eq_getElem?_getD,List.getElem?_eq_getElem h,Option.getD_some]
def onceP (l:List ByteArray) (i:Nat):Bool:=nameB (nm l i)&&allTo (fun k=>!decide (nm l k=nm l i)) i
def onceB (l:List ByteArray):Bool:=allTo (onceP l) l.length
theorem nm_size {l:List ByteArray} (hl:NamesOk l) {i:Nat} (h:i<l.length):(nm l i).size≤4611686018427387904:=by
  rw[← nm_at h];exact hl.2 _ (List.getElem_mem h)
set_option maxHeartbeats 1000000 in
theorem p_l1Once (l:List ByteArray) (hl:NamesOk l):PCall Tryz.prog gl 54 [namesD l] (dB (onceB l)):=by
  refine PCall.by_ (md:=[]) Tryz.func54 rfl (by kernel_rfl) (n:=31) Tryz.ntmps54 (by simp) (by decide) rfl ?_
  have hlen:=hl.1
  simp
  refine LoopT.round (fun E S=>∃ i:Nat,i≤l.length∧E 0=some (.d (namesD l))∧E 3=some (.d (dI i))∧(∀ j,j<i→onceP l j=true)) (upTo 3 l.length) ⟨0,by simp⟩ ?_
  rintro E S hk ⟨i,hi,h0,h3,hp⟩
  have hn:S.n=31:=by simpa using hk.n
  have hg:S.gl=gl:=by simpa using hk.gl
  have w:IntKind.i64.wrap ((i:Int)+1)=(i:Int)+1:=wrap64 (by omega) (by omega)
  simp[h0,h3,hn]
  refine BrT.dec (fun h=>?_) (fun h=>?_)
  · have hi2:i<l.length:=by omega
    have bad:onceP l i=false→onceB l=false:=fun h=>allTo_false hi2 h
    simp[h0,h3,hn,hi2,nm_at]
    refine CallT.p (p_l1Name _ (nm_size hl hi2)) (by first | rfl | simp[hg]) rfl ?_
    simp[hn]
    refine BrT.mk (fun hb=>?_) (fun hb=>?_)
    · simp[hn,hb]
      refine LoopT.round (fun E S=>∃ k:Nat,k≤i∧E 0=some (.d (namesD l))∧E 3=some (.d (dI i))∧E 4=some (.d (dI k))∧(∀ j,j<k→(!decide (nm l j=nm l i))=true)) (upTo 4 i) ⟨0,by simp[h0,h3]⟩ ?_
      rintro E2 S2 hk2 ⟨k,hki,g0,g3,g4,gp⟩
      have gn:S2.n=31:=by have:=hk2.n;simpa[hn] using this
      have w2:IntKind.i64.wrap ((k:Int)+1)=(k:Int)+1:=wrap64 (by omega) (by omega)
      simp[g3,g4,gn]
      refine BrT.dec (fun h=>?_) (fun h=>?_)
      · have hk3:k<i:=by omega
        have hk4:k<l.length:=by omega
        simp[g0,g3,g4,gn,hi2,hk4,nm_at]
        refine⟨DrawT.mk (by kernel_rfl),?_⟩
        refine BrT.dec (fun he=>?_) (fun he=>?_)
        · have:=bad (by unfold onceP;rw[allTo_false hk3 (by simp[he])];simp)
          simp[gn,he,this]
        · simp[g0,g3,g4,gn,he,w2]
          refine⟨⟨k+1,by omega,rfl,fun j hj=>?_⟩,upTo_lt g4 (by simp) hk3⟩
          have:=next_all gp (by simp[he]) j hj
          simpa using this
      · have hk3:k=i:=by omega
        subst hk3
        simp[g0,g3,gn,w]
        refine⟨⟨k+1,by omega,rfl,next_all hp (by unfold onceP;rw[hb,allTo_true gp];rfl)⟩,?_⟩
        exact upTo_lt h3 (by simp) hi2
    · have:=bad (by simp[onceP,hb])
      simp[hn,hb,this]
  · have hi3:i=l.length:=by omega
    subst hi3
    simp[hn,onceB,allTo_true hp]
theorem mem_take {l:List ByteArray}{i:Nat} (hi:i<l.length):memB (nm l i) (l.take i) = !allTo (fun k=>!decide (nm l k=nm l i)) i:=by
  cases hb:allTo (fun k=>!decide (nm l k=nm l i)) i with
  | true =>
    cases hm:memB (nm l i) (l.take i) with
    | false=>rfl
    | true =>
      obtain⟨k,hk,he⟩:=List.getElem_of_mem (memB_iff.1 hm)
      have hk2:k<i:=by simp at hk;omega
      have h2:=allTo_iff.1 hb k hk2
      rw[List.getElem_take,nm_at (by omega)] at he
      simp[he] at h2
  | false =>
    cases hm:memB (nm l i) (l.take i) with
    | true=>rfl
    | false =>
      have:allTo (fun k=>!decide (nm l k=nm l i)) i=true:=allTo_true fun k hk=>by
        cases hd:decide (nm l k=nm l i) with
        | false=>rfl
        | true =>
          have he:=of_decide_eq_true hd
          have hmem:nm l i∈l.take i:=by
            rw[← he, ← nm_at (by omega:k<l.length)]
            exact List.mem_take_iff_getElem.2 ⟨k,by omega,rfl⟩
          rw[memB_iff.2 hmem] at hm;cases hm
      rw[this] at hb;cases hb
set_option maxHeartbeats 1000000 in
theorem p_namesOnce (l:List ByteArray) (hl:NamesOk l):PCall Tryz.prog gl 104 [namesD l] (dB (onceB l)):=by
  refine PCall.by_ (md:=[]) Tryz.func104 rfl (by kernel_rfl) (n:=23) Tryz.ntmps104 (by simp) (by decide) rfl ?_
  have hlen:=hl.1
  simp
  refine LoopT.round (fun E S=>∃ i:Nat,i≤l.length∧E 0=some (.d (namesD l))∧E 5=some (.d (namesD l))∧E 6=some (.d (dI l.length))∧E 7=some (.d (dI i))∧(∀ j,j<i→onceP l j=true)) (upTo 7 l.length) ⟨0,by simp⟩ ?_
  rintro E S hk ⟨i,hi,h0,h5,h6,h7,hp⟩
  have hn:S.n=23:=by simpa using hk.n
  have hg:S.gl=gl:=by simpa using hk.gl
  have w:IntKind.i64.wrap ((i:Int)+1)=(i:Int)+1:=wrap64 (by omega) (by omega)
  simp[h6,h7,hn]
  refine BrT.dec (fun h=>?_) (fun h=>?_)
  · have hi2:i<l.length:=by omega
    have bad:onceP l i=false→onceB l=false:=fun h=>allTo_false hi2 h
    simp[h5,h7,hn,hi2,nm_at]
    refine CallT.p (p_isName _ (nm_size hl hi2)) (by first | rfl | simp[hg]) rfl ?_
    simp[hn]
    refine BrT.mk (fun hb=>?_) (fun hb=>?_)
    · simp[h0,hn,hb]
      refine⟨by omega,?_⟩
      have hc:=p_Contains (gl:=gl) (l.take i) (nm l i) (by simp;omega)
      rw[mem_take hi2] at hc
      refine CallT.p hc (by first | rfl | simp[hg]) (by simp;omega) ?_
      simp[hn]
      refine BrT.mk (fun hd=>?_) (fun hd=>?_)
      · simp[h0,h5,h6,h7,hn,hd,w]
        exact⟨⟨i+1,by omega,rfl,next_all hp (by unfold onceP;rw[hb,hd];rfl)⟩,upTo_lt h7 (by simp) hi2⟩
      · have:=bad (by unfold onceP;rw[hd];simp)
        simp[hn,hd,this]
    · have:=bad (by simp[onceP,hb])
      simp[hn,hb,this]
  · have hi3:i=l.length:=by omega
    subst hi3
    simp[hn,onceB,allTo_true hp]
inductive Val where
  | mk (kind num:Int) (text:ByteArray) (list:List Val) (names:List ByteArray)
  deriving Inhabited
mutual
def Val.cells:Val→List D
  | .mk k n t l ns=>[dI k,dI n,dS t, .ps (valsCells l) l.length,namesD ns]
def valsCells:List Val→List D
  | []=>[]
  | v::r=>v.cells++valsCells r
end
abbrev Val.d (v:Val):D:=.agg v.cells
abbrev valsD (l:List Val):D:=.ps (valsCells l) l.length
theorem cells_len (v:Val):v.cells.length=5:=by cases v;rfl
@[simp] theorem take_cellsS (v:Val):(v.cells.map SV.d).take 5=v.cells.map SV.d:=List.take_of_length_le (by rw[List.length_map,cells_len];exact Nat.le_refl _)
theorem valsCells_row:∀ l:List Val,valsCells l=l.flatMap Val.cells
  | []=>by simp[valsCells]
  | v::r=>by rw[valsCells,valsCells_row r,List.flatMap_cons]
theorem valsCells_len (l:List Val):(valsCells l).length=l.length*5:=by rw[valsCells_row,row_len cells_len]
theorem valsCells_at (l:List Val) {i:Nat} (hi:i<l.length):((valsCells l).drop (i*5)).take 5=(l[i]).cells:=by rw[valsCells_row,row_at cells_len l i hi]
inductive WF:Val→Prop
  | mk {k n:Int} {t:ByteArray} {l:List Val} {ns:List ByteArray} (ht:t.size≤4611686018427387904) (hn:NamesOk ns) (hl:l.length≤4611686018427387904) (h:∀ v∈l,WF v):WF (.mk k n t l ns)
def plainB (k n:Int) (t:ByteArray) (ll ln:Nat):Bool :=
  if k=0 then decide (n=0)&&decide (t=⟨#[]⟩)&&decide ((ll:Int)+ln=0)
  else if k=1 then decide (0≤n)&&decide (n≤1)&&decide (t=⟨#[]⟩)&&decide ((ll:Int)+ln=0)
  else if k=2 then decide (-2147483647≤n)&&decide (n≤2147483647)&&decide (t=⟨#[]⟩)&&decide ((ll:Int)+ln=0)
  else if k=3 then decide (n=0)&&decide ((t.size:Int)≤40)&&decide ((ll:Int)+ln=0)
  else if k=4 then decide (n=0)&&decide (t=⟨#[]⟩)&&decide ((ln:Int)=0)&&decide ((ll:Int)≤12)
  else if k=5 then decide (n=0)&&decide (t=⟨#[]⟩)&&decide ((ln:Int)=ll)&&decide ((ll:Int)≤12)
  else if k=6∨k=7 then decide (n=0)&&nameB t&&decide ((ll:Int)+ln=0)
  else false
set_option maxHeartbeats 4000000 in
theorem p_l1Plain (k n:Int) (t:ByteArray) (l:List Val) (ns:List ByteArray) (ht:t.size≤4611686018427387904) (hl:l.length≤4611686018427387904) (hn:ns.length≤4611686018427387903):PCall Tryz.prog gl 139 [(Val.mk k n t l ns).d] (dB (plainB k n t l.length ns.length)):=by
  refine PCall.by_ (md:=[]) Tryz.func139 rfl (by kernel_rfl) (n:=154) Tryz.ntmps139 (by simp) (by decide) rfl ?_
  have w:IntKind.i64.wrap ((l.length:Int)+ns.length)=(l.length:Int)+ns.length:=wrap64 (by omega) (by omega)
  simp[Val.cells]
  repeat' first
    | (refine BrT.dec (fun h=>?_) (fun h=>?_)<;>simp[h,w])
    | (refine CallT.p (p_l1In _ _ _) rfl rfl ?_;simp)
    | (refine CallT.p (p_l1Name _ ht) rfl rfl ?_;simp)
    | (refine BrT.mk (fun h=>?_) (fun h=>?_)<;>simp[h,w])
  all_goals (clear w ht hl hn;simp[plainB, *])
def formB (k n:Int) (t:ByteArray) (ll:Nat) (ns:List ByteArray):Bool:=plainB k n t ll ns.length&&(!decide (k=5) || onceB ns)
def itemIn (k n:Int) (t:ByteArray) (l:List Val) (ns:List ByteArray):D :=
  if k=0 then .ifc 180 (.agg [])
  else if k=1 then .ifc 181 (dB (decide (n=1)))
  else if k=2 then .ifc 182 (dI n)
  else if k=3 then .ifc 183 (dS t)
  else if k=4 then .ifc 184 (valsD l)
  else if k=5 then .ifc 186 (.agg [namesD ns,valsD l])
  else if k=6 then .ifc 146 (dS t)
  else .ifc 147 (dS t)
def itemD (k n:Int) (t:ByteArray) (l:List Val) (ns:List ByteArray):D:=if formB k n t l.length ns=true then itemIn k n t l ns else .v .nilIface
theorem len0 (l:List Val) (ns:List ByteArray):((l.length:Int)+ns.length=0)↔l=[]∧ns=[]:=by
  rw[← List.length_eq_zero_iff, ← List.length_eq_zero_iff]
  omega
set_option maxHeartbeats 8000000 in
theorem p_itemOf (k n:Int) (t:ByteArray) (l:List Val) (ns:List ByteArray) (ht:t.size≤4611686018427387904) (hl:l.length≤4611686018427387904) (hn:NamesOk ns):PCall Tryz.prog gl 120 [(Val.mk k n t l ns).d] (itemD k n t l ns):=by
  refine PCall.by_ (md:=[]) Tryz.func120 rfl (by kernel_rfl) (n:=171) Tryz.ntmps120 (by simp) (by decide) rfl ?_
  simp[Val.cells]
  repeat' first
    | (refine BrT.dec (fun h=>?_) (fun h=>?_)<;>simp[h])
    | (refine CallT.p (p_isName _ ht) rfl rfl ?_;simp)
    | (refine CallT.p (p_namesOnce _ hn) rfl rfl ?_;simp)
    | (refine CallT.p (p_namesOnce [] ⟨by simp,by simp⟩) rfl rfl ?_;simp)
    | (refine BrT.mk (fun h=>?_) (fun h=>?_)<;>simp[h])
  all_goals try (clear ht hl hn;simp[itemD,itemIn,formB,plainB,len0, *];done)
  all_goals try (clear ht hl hn;simp[itemD,itemIn,formB,plainB, *];intros;omega)
mutual
def okB:Val→Int→Bool→Bool
  | .mk k n t l ns,deep,words=>!decide (deep<1)&&plainB k n t l.length ns.length && !(!words&&decide (5<k))&&onceB ns&&oksB l (deep - 1) words
def oksB:List Val→Int→Bool→Bool
  | [],_,_=>true
  | v::r,deep,words=>okB v deep words&&oksB r deep words
end
def vl (l:List Val) (i:Nat):Val:=l.getD i default
theorem oksB_all {d:Int}{w:Bool}:∀ l:List Val,oksB l d w=allTo (fun i=>okB (vl l i) d w) l.length
  | []=>by simp[oksB,allTo]
  | v::r=>by
    rw[oksB,oksB_all r,Bool.eq_iff_iff,Bool.and_eq_true,allTo_iff,allTo_iff]
    constructor
    · rintro ⟨h1,h2⟩ j hj
      cases j with
      | zero=>exact h1
      | succ j=>exact h2 j (by simpa using hj)
    · intro h
      exact⟨h 0 (by simp),fun j hj=>h (j+1) (by simpa using hj)⟩
theorem val_at {l:List Val}{i:Nat} (h:i<l.length):vl l i=l[i]:=by
  unfold vl
  rw[List.getD_eq_getElem?_getD,List.getElem?_eq_getElem h,Option.getD_some]
set_option maxHeartbeats 4000000 in
theorem p_l1Ok (v:Val) (hv:WF v) (deep:Int) (words:Bool) (hd : -4611686018427387904≤deep) (hd2:deep≤4611686018427387904):PCall Tryz.prog gl 80 [v.d,dI deep,dB words] (dB (okB v deep words)):=by
  match v,hv with
  | .mk k n t l ns, .mk ht hn hl hwf =>
    have ih:∀ i (hi:i<l.length) (deep:Int), -4611686018427387904≤deep→deep≤4611686018427387904→PCall Tryz.prog gl 80 [l[i].d,dI deep,dB words] (dB (okB l[i] deep words)):=fun i hi deep a b =>
      have:=List.sizeOf_lt_of_mem (List.getElem_mem hi)
      p_l1Ok l[i] (hwf _ (List.getElem_mem hi)) deep words a b
    refine PCall.by_ (md:=[]) Tryz.func80 rfl (by kernel_rfl) (n:=47) Tryz.ntmps80 (by simp) (by decide) rfl ?_
    have hnl:=hn.1
    simp[Val.cells]
    repeat' first
      | (refine BrT.dec (fun h=>?_) (fun h=>?_)<;>simp[h])
      | (refine CallT.p (p_l1Plain k n t l ns ht hl hnl) rfl rfl ?_;simp)
      | (refine CallT.p (p_l1Once ns hn) rfl rfl ?_;simp)
      | (refine BrT.mk (fun h=>?_) (fun h=>?_)<;>simp[h])
    all_goals try (clear ih hwf hv hn ht hl hnl;simp[okB, *];done)
    all_goals
      have hok:okB (.mk k n t l ns) deep words=oksB l (deep - 1) words:=by clear ih hwf hv hn ht hl hnl;simp[okB, *]
      have hd1:1≤deep:=by omega
      have w1:IntKind.i64.wrap (deep - 1)=deep - 1:=wrap64 (by omega) (by omega)
      refine LoopT.round (fun E S=>∃ i:Nat,i≤l.length∧E 1=some (.d (dI deep))∧E 2=some (.d (dB words))∧E 3=some (.op 0 0)∧E 7=some (.d (dI i))∧S.B 0=some [.d (dI k), .d (dI n), .d (dS t), .d (.ps (valsCells l) l.length), .d (namesD ns)]∧(∀ j,j<i→okB (vl l j) (deep - 1) words=true)) (upTo 7 l.length) ⟨0,by clear ih hwf hv hn ht hl hnl hok;simp[*]⟩ ?_
      rintro E S hk ⟨i,hi,h1,h2,h3,h7,hB,hp⟩
      have gn:S.n=47:=by simpa using hk.n
      have hg:S.gl=gl:=by simpa using hk.gl
      have w:IntKind.i64.wrap ((i:Int)+1)=(i:Int)+1:=wrap64 (by omega) (by omega)
      simp[h3,h7,hB,gn]
      refine BrT.dec (fun h=>?_) (fun h=>?_)
      · have hi2:i<l.length:=by omega
        have hlen:=valsCells_len l
        have hfit:i*5+5≤l.length*5:=by omega
        simp[h1,h2,h3,h7,hB,gn,hi2,hlen,hfit,valsCells_at,w1]
        refine CallT.p (ih i hi2 (deep - 1) (by omega) (by omega)) (by first | rfl | simp[hg]) rfl ?_
        simp[gn]
        refine BrT.mk (fun hb=>?_) (fun hb=>?_)
        · simp[h1,h2,h3,h7,hB,gn,hb,w]
          exact⟨⟨i+1,by omega,rfl,next_all hp (by rw[val_at hi2];exact hb)⟩,upTo_lt h7 (by simp) hi2⟩
        · have:oksB l (deep - 1) words=false:=by rw[oksB_all,allTo_false hi2 (by rw[val_at hi2];exact hb)]
          have fin:=hok.trans this
          clear hok this
          simp[gn,hb]
          first | (simpa[‹words=true›] using fin)|(simpa[‹words=false›] using fin)
      · have hi3:i=l.length:=by omega
        have:oksB l (deep - 1) words=true:=by rw[oksB_all];exact allTo_true (fun j hj=>hp j (by omega))
        have fin:=hok.trans this
        clear hok this
        simp[gn]
        first | (simpa[‹words=true›] using fin)|(simpa[‹words=false›] using fin)
  termination_by SizeOf.sizeOf v
  decreasing_by
  simp_wf
  omega
theorem p_nullWithin:PCall Tryz.prog gl 267 [.agg []] (.ps [] 0):=by
  refine PCall.by_ (md:=[]) Tryz.func267 rfl (by kernel_rfl) (n:=3) Tryz.ntmps267 (by simp) (by decide) rfl ?_
  simp
theorem p_boolWithin (b:Bool):PCall Tryz.prog gl 268 [dB b] (.ps [] 0):=by
  refine PCall.by_ (md:=[]) Tryz.func268 rfl (by kernel_rfl) (n:=3) Tryz.ntmps268 (by simp) (by decide) rfl ?_
  simp
theorem p_numWithin (n:Int):PCall Tryz.prog gl 269 [dI n] (.ps [] 0):=by
  refine PCall.by_ (md:=[]) Tryz.func269 rfl (by kernel_rfl) (n:=3) Tryz.ntmps269 (by simp) (by decide) rfl ?_
  simp
theorem p_textWithin (s:ByteArray):PCall Tryz.prog gl 270 [dS s] (.ps [] 0):=by
  refine PCall.by_ (md:=[]) Tryz.func270 rfl (by kernel_rfl) (n:=3) Tryz.ntmps270 (by simp) (by decide) rfl ?_
  simp
theorem p_listWithin (l:List Val):PCall Tryz.prog gl 271 [valsD l] (valsD l):=by
  refine PCall.by_ (md:=[]) Tryz.func271 rfl (by kernel_rfl) (n:=4) Tryz.ntmps271 (by simp) (by decide) rfl ?_
  simp
theorem p_treeWithin (ns:List ByteArray) (l:List Val):PCall Tryz.prog gl 272 [.agg [namesD ns,valsD l]] (valsD l):=by
  refine PCall.by_ (md:=[]) Tryz.func272 rfl (by kernel_rfl) (n:=5) Tryz.ntmps272 (by simp) (by decide) rfl ?_
  simp
theorem plain_kind {k n:Int}{t:ByteArray}{ll ln:Nat} (h:plainB k n t ll ln=true):k=0∨k=1∨k=2∨k=3∨k=4∨k=5∨k=6∨k=7:=by
  by_cases h0:k=0; · exact .inl h0
  by_cases h1:k=1; · exact .inr (.inl h1)
  by_cases h2:k=2; · exact .inr (.inr (.inl h2))
  by_cases h3:k=3; · exact .inr (.inr (.inr (.inl h3)))
  by_cases h4:k=4; · exact .inr (.inr (.inr (.inr (.inl h4))))
  by_cases h5:k=5; · exact .inr (.inr (.inr (.inr (.inr (.inl h5)))))
  by_cases h6:k=6; · exact .inr (.inr (.inr (.inr (.inr (.inr (.inl h6))))))
  by_cases h7:k=7; · exact .inr (.inr (.inr (.inr (.inr (.inr (.inr h7))))))
  simp[plainB,h0,h1,h2,h3,h4,h5,h6,h7] at h
theorem p_within {k n:Int}{t:ByteArray}{l:List Val}{ns:List ByteArray} (hf:formB k n t l.length ns=true) (hk:¬ 5<k) :
    ∃ T x g, itemD k n t l ns = .ifc T x ∧ T ≠ 146 ∧ T ≠ 147 ∧ methOf Tryz.prog T "loop.example/pergola/impl.within" = some g ∧ PCall Tryz.prog gl g [x] (valsD l) := by
  have hp:plainB k n t l.length ns.length=true:=by simp only[formB,Bool.and_eq_true] at hf;exact hf.1
  unfold itemD
  rw[if_pos hf]
  have nil:∀ (hs:((l.length:Int)+ns.length=0)),valsD l=.ps [] 0:=fun hs=>by
    obtain⟨rfl,_⟩:=(len0 l ns).1 hs
    rfl
  rcases plain_kind hp with rfl | rfl | rfl | rfl | rfl | rfl | rfl | rfl
  · have:=nil (by simp[plainB] at hp;exact_mod_cast hp.2)
    rw[this]
    exact⟨180, .agg [],267,rfl,by decide,by decide,by kernel_rfl,p_nullWithin⟩
  · have:=nil (by simp[plainB] at hp;exact_mod_cast hp.2)
    rw[this]
    exact⟨181,_,268,rfl,by decide,by decide,by kernel_rfl,p_boolWithin _⟩
  · have:=nil (by simp[plainB] at hp;exact_mod_cast hp.2)
    rw[this]
    exact⟨182,_,269,rfl,by decide,by decide,by kernel_rfl,p_numWithin _⟩
  · have:=nil (by simp[plainB] at hp;exact_mod_cast hp.2)
    rw[this]
    exact⟨183,_,270,rfl,by decide,by decide,by kernel_rfl,p_textWithin _⟩
  · exact⟨184,_,271,rfl,by decide,by decide,by kernel_rfl,p_listWithin l⟩
  · exact⟨186,_,272,rfl,by decide,by decide,by kernel_rfl,p_treeWithin ns l⟩
  · omega
  · omega
theorem onceB_nil:onceB []=true:=rfl
theorem plain_names {k n:Int}{t:ByteArray}{l:List Val}{ns:List ByteArray} (h:plainB k n t l.length ns.length=true) (h5:k≠5):ns=[]:=by
  have hs:((l.length:Int)+ns.length=0)→ns=[]:=fun h=>((len0 l ns).1 h).2
  rcases plain_kind h with rfl | rfl | rfl | rfl | rfl | rfl | rfl | rfl
  · exact hs (by simp[plainB] at h;exact_mod_cast h.2)
  · exact hs (by simp[plainB] at h;exact_mod_cast h.2)
  · exact hs (by simp[plainB] at h;exact_mod_cast h.2)
  · exact hs (by simp[plainB] at h;exact_mod_cast h.2)
  · simp[plainB] at h;exact h.1.2
  · exact absurd rfl h5
  · exact hs (by simp[plainB] at h;exact_mod_cast h.2)
  · exact hs (by simp[plainB] at h;exact_mod_cast h.2)
theorem form_eq {k n:Int}{t:ByteArray}{l:List Val}{ns:List ByteArray}:formB k n t l.length ns=(plainB k n t l.length ns.length&&onceB ns):=by
  unfold formB
  cases hp:plainB k n t l.length ns.length with
  | false=>rfl
  | true =>
    by_cases h5:k=5
    · simp[h5]
    · have:=plain_names hp h5
      subst this
      simp[h5,onceB_nil]
theorem ok_form {k n:Int}{t:ByteArray}{l:List Val}{ns:List ByteArray}{deep:Int}{words:Bool} (h:formB k n t l.length ns=false):okB (.mk k n t l ns) deep words=false:=by
  rw[form_eq,Bool.and_eq_false_iff] at h
  rcases h with h | h<;>simp[okB,h]
theorem ok_in {k n:Int}{t:ByteArray}{l:List Val}{ns:List ByteArray}{deep:Int}{words:Bool} (h:formB k n t l.length ns=true) (hd:¬ deep<1) (hk:¬ 5<k):okB (.mk k n t l ns) deep words=oksB l (deep - 1) words:=by
  rw[form_eq,Bool.and_eq_true] at h
  simp[okB,h,hd,hk]
theorem ok_word {k n:Int}{t:ByteArray}{l:List Val}{ns:List ByteArray}{deep:Int}{words:Bool} (h:formB k n t l.length ns=true) (hd:¬ deep<1) (hk:5<k):okB (.mk k n t l ns) deep words=words∧(k=6∨k=7):=by
  rw[form_eq,Bool.and_eq_true] at h
  have hk2:k=6∨k=7:=by
    rcases plain_kind h.1 with rfl | rfl | rfl | rfl | rfl | rfl | rfl | rfl<;>first | omega | simp
  have hl:l=[]:=by
    have hp:=h.1
    rcases hk2 with rfl | rfl
    · exact ((len0 l ns).1 (by simp[plainB] at hp;exact_mod_cast hp.2)).1
    · exact ((len0 l ns).1 (by simp[plainB] at hp;exact_mod_cast hp.2)).1
  subst hl
  refine⟨?_,hk2⟩
  cases words<;>simp[okB,h,hd,hk,oksB]<;>(try exact h.1)
set_option maxHeartbeats 4000000 in
theorem p_fitsIn (v:Val) (hv:WF v) (most:Int) (free:Bool) (hd : -4611686018427387904≤most) (hd2:most≤4611686018427387904):PCall Tryz.prog gl 61 [v.d,dI most,dB free] (dB (okB v most free)):=by
  match v,hv with
  | .mk k n t l ns, .mk ht hn hl hwf =>
    have ih:∀ i (hi:i<l.length) (deep:Int), -4611686018427387904≤deep→deep≤4611686018427387904→PCall Tryz.prog gl 61 [l[i].d,dI deep,dB free] (dB (okB l[i] deep free)):=fun i hi deep a b =>
      have:=List.sizeOf_lt_of_mem (List.getElem_mem hi)
      p_fitsIn l[i] (hwf _ (List.getElem_mem hi)) deep free a b
    refine PCall.by_ (md:=[]) Tryz.func61 rfl (by kernel_rfl) (n:=38) Tryz.ntmps61 (by simp) (by decide) rfl ?_
    simp[Val.cells]
    refine BrT.dec (fun h=>?_) (fun h=>?_)
    · simp[h,okB]
    simp[h]
    have hc:=p_itemOf (gl:=gl) k n t l ns ht hl hn
    by_cases hf:formB k n t l.length ns=true
    case neg =>
      have hi:itemD k n t l ns=.v .nilIface:=if_neg hf
      rw[hi] at hc
      refine CallT.p hc rfl rfl ?_
      simp[ok_form (deep:=most) (words:=free) (by simpa using hf)]
    by_cases hk:5<k
    case pos =>
      obtain⟨h1,h2⟩:=ok_word (words:=free) hf h hk
      rcases h2 with rfl | rfl
      · have hi:itemD 6 n t l ns=.ifc 146 (dS t):=if_pos hf
        rw[hi] at hc
        refine CallT.p hc rfl rfl ?_
        simp[h1]
      · have hi:itemD 7 n t l ns=.ifc 147 (dS t):=if_pos hf
        rw[hi] at hc
        refine CallT.p hc rfl rfl ?_
        simp[h1]
    obtain⟨T,x,g,hi,hT1,hT2,hm,hg⟩:=p_within (gl:=gl) hf hk
    rw[hi] at hc
    refine CallT.p hc rfl rfl ?_
    simp[hT1,hT2]
    refine InvT.p hg (by simp) hm rfl ?_
    simp
    have hok:=ok_in (words:=free) hf h hk
    have w1:IntKind.i64.wrap (most - 1)=most - 1:=wrap64 (by omega) (by omega)
    refine LoopT.round (fun E S=>∃ i:Nat,i≤l.length∧E 1=some (.d (dI most))∧E 2=some (.d (dB free))∧E 25=some (.d (valsD l))∧E 26=some (.d (dI l.length))∧E 27=some (.d (dI i))∧(∀ j,j<i→okB (vl l j) (most - 1) free=true)) (upTo 27 l.length) ⟨0,by simp⟩ ?_
    rintro E S hk ⟨i,hi,h1,h2,h25,h26,h27,hp⟩
    have gn:S.n=38:=by simpa using hk.n
    have hgl:S.gl=gl:=by simpa using hk.gl
    have w:IntKind.i64.wrap ((i:Int)+1)=(i:Int)+1:=wrap64 (by omega) (by omega)
    simp[h26,h27,gn]
    refine BrT.dec (fun h=>?_) (fun h=>?_)
    · have hi2:i<l.length:=by omega
      have hlen:=valsCells_len l
      have hfit:i*5+5≤l.length*5:=by omega
      simp[h1,h2,h25,h27,gn,hi2,hlen,hfit,valsCells_at,w1,cells_len]
      refine CallT.p (ih i hi2 (most - 1) (by omega) (by omega)) (by first | rfl | simp[hgl]) (by simp) ?_
      simp[gn]
      refine BrT.mk (fun hb=>?_) (fun hb=>?_)
      · simp[h1,h2,h25,h26,h27,gn,hb,w]
        exact⟨⟨i+1,by omega,rfl,next_all hp (by rw[val_at hi2];exact hb)⟩,upTo_lt h27 (by simp) hi2⟩
      · have:oksB l (most - 1) free=false:=by rw[oksB_all,allTo_false hi2 (by rw[val_at hi2];exact hb)]
        simp[gn,hb,hok,this]
    · have hi3:i=l.length:=by omega
      have:oksB l (most - 1) free=true:=by rw[oksB_all];exact allTo_true (fun j hj=>hp j (by omega))
      simp[gn,hok,this]
  termination_by SizeOf.sizeOf v
  decreasing_by
  simp_wf
  omega
set_option maxHeartbeats 1000000 in
theorem p_eqValueS_of (l:List Val) (hl:l.length≤4611686018427387904) (ih:∀ i (h:i<l.length),PCall Tryz.prog gl 242 [l[i].d,l[i].d] (dB true)):PCall Tryz.prog gl 249 [valsD l,valsD l] (dB true):=by
  refine PCall.by_ (md:=[]) Tryz.func249 rfl (by kernel_rfl) (n:=27) Tryz.ntmps249 (by simp) (by decide) rfl ?_
  simp
  refine LoopT.round (fun E S=>∃ i:Nat,i≤l.length∧E 0=some (.d (valsD l))∧E 1=some (.d (valsD l))∧E 5=some (.d (dI i))) (upTo 5 l.length) ⟨0,by simp⟩ ?_
  rintro E S hk ⟨i,hi,h0,h1,h5⟩
  have hn:S.n=27:=by simpa using hk.n
  have hg:S.gl=gl:=by simpa using hk.gl
  have w:IntKind.i64.wrap ((i:Int)+1)=(i:Int)+1:=wrap64 (by omega) (by omega)
  simp[h0,h5,hn]
  refine BrT.dec (fun h=>?_) (fun h=>?_)
  · have hi2:i<l.length:=by omega
    have hlen:=valsCells_len l
    have hfit:i*5+5≤l.length*5:=by omega
    simp[h0,h1,h5,hn,hi2,hlen,hfit,valsCells_at]
    refine⟨DrawT.mk (by kernel_rfl),?_⟩
    refine CallT.p (ih i hi2) (by first | rfl | simp[hg]) rfl ?_
    simp[h0,h1,h5,hn,w]
    exact⟨⟨i+1,by omega,rfl⟩,upTo_lt h5 (by simp) hi2⟩
  · simp[hn]
set_option maxHeartbeats 1000000 in
theorem p_eqValue (v:Val) (hv:WF v):PCall Tryz.prog gl 242 [v.d,v.d] (dB true):=by
  match v,hv with
  | .mk k n t l ns, .mk ht hn hl hwf =>
    have hs:=p_eqValueS_of (gl:=gl) l hl (fun i hi =>
      have:=List.sizeOf_lt_of_mem (List.getElem_mem hi)
      p_eqValue l[i] (hwf _ (List.getElem_mem hi)))
    refine PCall.by_ (md:=[]) Tryz.func242 rfl (by kernel_rfl) (n:=32) Tryz.ntmps242 (by simp) (by decide) rfl ?_
    have hnl:=hn.1
    simp[Val.cells]
    refine CallT.p hs rfl rfl ?_
    simp
    refine CallT.p (p_eqStringS ns (by omega)) rfl rfl ?_
    simp
  termination_by SizeOf.sizeOf v
  decreasing_by
  simp_wf
  omega
mutual
def szV:Val→Int→Int
  | .mk _ _ t l ns,left=>if left - t.size<0 then -1 else if szVs l (left - t.size)<0 then -1 else if szNames ns (szVs l (left - t.size))<0 then -1 else szNames ns (szVs l (left - t.size))
def szVs:List Val→Int→Int
  | l,left=>if left - l.length<0 then -1 else szVgo l (left - l.length)
def szVgo:List Val→Int→Int
  | [],r=>r
  | v::l,r=>if szV v r<0 then -1 else szVgo l (szV v r)
end
theorem szGo_le:∀ (l:List ByteArray) (r:Int), -1≤r→-1≤szGo l r∧szGo l r≤r
  | [],r,h=>⟨h,Int.le_refl _⟩
  | s::t,r,h=>by
    simp only[szGo]
    split
    · omega
    · have:=szGo_le t (r - s.size) (by omega)
      omega
theorem szNames_le (l:List ByteArray) (r:Int) (h : -1≤r) : -1≤szNames l r∧szNames l r≤r:=by
  unfold szNames
  split
  · omega
  · have:=szGo_le l (r - l.length) (by omega)
    omega
mutual
theorem szV_le:∀ (v:Val) (r:Int), -1≤r→-1≤szV v r∧szV v r≤r
  | .mk k n t l ns,r,h=>by
    simp only[szV]
    split
    · omega
    · have h1:=szVs_le l (r - t.size) (by omega)
      split
      · omega
      · have h2:=szNames_le ns (szVs l (r - t.size)) (by omega)
        split<;>omega
theorem szVs_le:∀ (l:List Val) (r:Int), -1≤r→-1≤szVs l r∧szVs l r≤r
  | l,r,h=>by
    simp only[szVs]
    split
    · omega
    · have:=szVgo_le l (r - l.length) (by omega)
      omega
theorem szVgo_le:∀ (l:List Val) (r:Int), -1≤r→-1≤szVgo l r∧szVgo l r≤r
  | [],r,h=>by simp only[szVgo];omega
  | v::l,r,h=>by
    simp only[szVgo]
    have h1:=szV_le v r h
    split
    · omega
    · have:=szVgo_le l (szV v r) (by omega)
      omega
end
set_option maxHeartbeats 1000000 in
theorem p_szValueS_of (l:List Val) (hl:l.length≤4611686018427387904) (ih:∀ i (h:i<l.length) (left:Int),0≤left→left≤4611686018427387904→PCall Tryz.prog gl 240 [l[i].d,dI left] (dI (szV l[i] left))) (left:Int) (h0:0≤left) (hb:left≤4611686018427387904) :
    PCall Tryz.prog gl 247 [valsD l,dI left] (dI (szVs l left)):=by
  refine PCall.by_ (md:=[]) Tryz.func247 rfl (by kernel_rfl) (n:=27) Tryz.ntmps247 (by simp) (by decide) rfl ?_
  have w0:IntKind.i64.wrap (left - l.length)=left - l.length:=wrap64 (by omega) (by omega)
  simp[w0]
  refine BrT.dec (fun h=>?_) (fun h=>?_)
  · have:szVs l left = -1:=by rw[szVs,if_pos (by omega)]
    simp[h,this]
  have hsz:szVs l left=szVgo l (left - l.length):=by rw[szVs,if_neg (by omega)]
  simp[h]
  refine LoopT.round (fun E S=>∃ (i:Nat) (r:Int),i≤l.length∧0≤r∧r≤4611686018427387904∧E 0=some (.d (valsD l))∧E 1=some (.d (dI r))∧E 5=some (.d (dI i))∧szVgo (l.drop i) r=szVs l left) (upTo 5 l.length) ⟨0,left - l.length,by simp[hsz];omega⟩ ?_
  rintro E S hk ⟨i,r,hi,hr0,hr1,h0,h1,h5,hp⟩
  have hn:S.n=27:=by simpa using hk.n
  have hg:S.gl=gl:=by simpa using hk.gl
  have w:IntKind.i64.wrap ((i:Int)+1)=(i:Int)+1:=wrap64 (by omega) (by omega)
  simp[h0,h5,hn]
  refine BrT.dec (fun h=>?_) (fun h=>?_)
  · have hi2:i<l.length:=by omega
    have hlen:=valsCells_len l
    have hfit:i*5+5≤l.length*5:=by omega
    have hd:szVgo (l.drop i) r=if szV l[i] r<0 then -1 else szVgo (l.drop (i+1)) (szV l[i] r):=by
      rw[List.drop_eq_getElem_cons hi2];simp only[szVgo]
    have hle:=szV_le l[i] r (by omega)
    simp[h0,h1,h5,hn,hi2,hlen,hfit,valsCells_at]
    refine CallT.p (ih i hi2 r hr0 hr1) (by first | rfl | simp[hg]) rfl ?_
    simp[hn]
    refine BrT.dec (fun he=>?_) (fun he=>?_)
    · rw[hd,if_pos he] at hp
      simp[hn,he,hp]
    · rw[hd,if_neg he] at hp
      simp[h0,h5,hn,w,he]
      exact⟨⟨i+1,by omega,szV l[i] r,by omega,by omega,rfl,by omega,hp⟩,upTo_lt h5 (by simp) hi2⟩
  · rw[List.drop_eq_nil_of_le (by omega)] at hp
    simp only[szVgo] at hp
    simp[h1,hn, ← hp]
set_option maxHeartbeats 1000000 in
theorem p_szValue (v:Val) (hv:WF v) (left:Int) (h0:0≤left) (hb:left≤4611686018427387904):PCall Tryz.prog gl 240 [v.d,dI left] (dI (szV v left)):=by
  match v,hv with
  | .mk k n t l ns, .mk ht hn hl hwf =>
    have hs:=p_szValueS_of (gl:=gl) l hl (fun i hi left a b =>
      have:=List.sizeOf_lt_of_mem (List.getElem_mem hi)
      p_szValue l[i] (hwf _ (List.getElem_mem hi)) left a b)
    refine PCall.by_ (md:=[]) Tryz.func240 rfl (by kernel_rfl) (n:=25) Tryz.ntmps240 (by simp) (by decide) rfl ?_
    have w0:IntKind.i64.wrap (left - t.size)=left - t.size:=wrap64 (by omega) (by omega)
    simp[Val.cells,w0]
    refine BrT.dec (fun h=>?_) (fun h=>?_)
    · simp[h,szV]<;>omega
    simp[h]
    refine CallT.p (hs (left - t.size) (by omega) (by omega)) rfl rfl ?_
    have l1:=szVs_le l (left - t.size) (by omega)
    simp
    refine BrT.dec (fun h1=>?_) (fun h1=>?_)
    · simp[h1,szV]<;>omega
    simp[h1]
    refine CallT.p (p_szStringS ns (szVs l (left - t.size)) hn (by omega) (by omega)) rfl rfl ?_
    simp
    refine BrT.dec (fun h2=>?_) (fun h2=>?_)
    · simp[h2,h1,szV]<;>omega
    · simp[h2,h1,szV]<;>omega
  termination_by SizeOf.sizeOf v
  decreasing_by
  simp_wf
  omega
inductive Small:Val→Prop
  | mk {k n:Int} {t:ByteArray} {l:List Val} {ns:List ByteArray} (ht:t.size≤1048576) (hn:ns.length≤1048576) (hns:∀ s∈ns,s.size≤1048576) (hl:l.length≤1048576) (h:∀ v∈l,Small v):Small (.mk k n t l ns)
theorem szGo_small:∀ (l:List ByteArray) (r:Int),r≤1048576→0≤szGo l r→∀ s∈l,s.size≤1048576
  | [],r,_,_,s,hs=>by simp at hs
  | x::t,r,hr,h,s,hs=>by
    simp only[szGo] at h
    split at h
    · omega
    · rename_i hx
      have:=szGo_small t (r - x.size) (by omega) h
      rcases List.mem_cons.1 hs with rfl | hs
      · have:=(szGo_le t (r - s.size) (by omega)).2;omega
      · exact this s hs
theorem szNames_small {l:List ByteArray}{r:Int} (hr:r≤1048576) (h:0≤szNames l r):l.length≤1048576∧∀ s∈l,s.size≤1048576:=by
  unfold szNames at h
  split at h
  · omega
  · rename_i hx
    have:=(szGo_le l (r - l.length) (by omega)).2
    exact⟨by omega,szGo_small l _ (by omega) h⟩
mutual
theorem szV_small:∀ (v:Val) (r:Int),r≤1048576→0≤szV v r→Small v
  | .mk k n t l ns,r,hr,h=>by
    simp only[szV] at h
    split at h
    · omega
    · rename_i h1
      split at h
      · omega
      · rename_i h2
        split at h
        · omega
        · rename_i h3
          have a1:=szVs_le l (r - t.size) (by omega)
          have a2:=szVs_small l (r - t.size) (by omega) (by omega)
          have a3:=szNames_small (l:=ns) (r:=szVs l (r - t.size)) (by omega) h
          exact .mk (by omega) a3.1 a3.2 a2.1 a2.2
theorem szVs_small:∀ (l:List Val) (r:Int),r≤1048576→0≤szVs l r→l.length≤1048576∧∀ v∈l,Small v
  | l,r,hr,h=>by
    simp only[szVs] at h
    split at h
    · omega
    · rename_i h1
      have a1:=szVgo_le l (r - l.length) (by omega)
      exact⟨by omega,szVgo_small l (r - l.length) (by omega) (by omega) h⟩
theorem szVgo_small:∀ (l:List Val) (r:Int), -1≤r→r≤1048576→0≤szVgo l r→∀ v∈l,Small v
  | [],r,a0,hr,h=>fun v hv=>by simp at hv
  | x::l,r,a0,hr,h=>fun v hv=>by
    simp only[szVgo] at h
    split at h
    · omega
    · rename_i h1
      have a1:=szV_le x r a0
      rcases List.mem_cons.1 hv with e | hv
      · rw[e];exact szV_small x r hr (by omega)
      · exact szVgo_small l (szV x r) (by omega) (by omega) h v hv
end
abbrev zV:List SV:=[.d (dI 0), .d (dI 0), .d (dS ⟨#[]⟩), .fl [] 0, .fl [] 0]
abbrev sV (v:Val):List SV:=v.cells.map .d
theorem sV_len (v:Val):(sV v).length=5:=by rw[List.length_map,cells_len]
theorem sV_row (l:List Val):l.flatMap sV=(valsCells l).map .d:=by
  rw[valsCells_row]
  induction l with
  | nil=>rfl
  | cons v r ih=>simp[ih]
theorem madeS_zV (n:Nat):madeS zV 5 n=(List.replicate n zV).flatten:=madeS_row zV n
set_option maxHeartbeats 1000000 in
theorem p_toValueS_of (l:List Val) (hl:l.length≤1048576) (ih:∀ i (h:i<l.length),PCall Tryz.prog gl 241 [l[i].d] l[i].d):PCall Tryz.prog gl 248 [valsD l] (valsD l):=by
  refine PCall.by_ (md:=[]) Tryz.func248 rfl (by kernel_rfl) (n:=23) Tryz.ntmps248 (by simp) (by decide) rfl ?_
  simp
  refine⟨by omega,?_⟩
  refine LoopT.round (fun E S=>∃ i:Nat,i≤l.length∧E 0=some (.d (valsD l))∧E 3=some (.os 3 0 l.length)∧E 4=some (.d (dI i))∧S.B 3=some (filled sV zV l i)) (upTo 4 l.length) ⟨0,by simp[filled_none,madeS_zV]⟩ ?_
  rintro E S hk ⟨i,hi,h0,h3,h4,hB⟩
  have hn:S.n=23:=by simpa using hk.n
  have hg:S.gl=gl:=by simpa using hk.gl
  have w:IntKind.i64.wrap ((i:Int)+1)=(i:Int)+1:=wrap64 (by omega) (by omega)
  simp[h0,h4,hn]
  refine BrT.dec (fun h=>?_) (fun h=>?_)
  · have hi2:i<l.length:=by omega
    have hlen:=valsCells_len l
    have hfit:i*5+5≤l.length*5:=by omega
    have hflen:=filled_len (enc:=sV) (z:=zV) sV_len rfl l hi
    have hnext:=filled_next (enc:=sV) (z:=zV) sV_len rfl l hi2
    simp[h0,h3,h4,hn,hi2,hlen,hfit,valsCells_at]
    refine CallT.p (ih i hi2) (by first | rfl | simp[hg]) rfl ?_
    simp[h0,h3,h4,hn,hi2,hB,w,hflen,hfit,cells_len]
    refine⟨⟨i+1,by omega,rfl,?_⟩,upTo_lt h4 (by simp) hi2⟩
    rw[← hnext]
    simp
  · have hi3:i=l.length:=by omega
    subst hi3
    rw[filled_all,sV_row] at hB
    simp[h3,hn,hB]
set_option maxHeartbeats 1000000 in
theorem p_toValue (v:Val) (hv:Small v):PCall Tryz.prog gl 241 [v.d] v.d:=by
  match v,hv with
  | .mk k n t l ns, .mk ht hn hns hl hwf =>
    have hs:=p_toValueS_of (gl:=gl) l hl (fun i hi =>
      have:=List.sizeOf_lt_of_mem (List.getElem_mem hi)
      p_toValue l[i] (hwf _ (List.getElem_mem hi)))
    refine PCall.by_ (md:=[]) Tryz.func241 rfl (by kernel_rfl) (n:=22) Tryz.ntmps241 (by simp) (by decide) rfl ?_
    simp[Val.cells]
    refine CallT.p hs rfl rfl ?_
    simp
    refine CallT.p (p_toStringS ns hn) rfl rfl ?_
    simp[Val.cells]
  termination_by SizeOf.sizeOf v
  decreasing_by
  simp_wf
  omega
theorem small_wf {v:Val} (h:Small v):WF v:=by
  match v,h with
  | .mk k n t l ns, .mk ht hn hns hl h =>
    exact .mk (by omega) ⟨by omega,fun s hs=>by have:=hns s hs;omega⟩ (by omega) fun x hx=>small_wf (h x hx)
  termination_by SizeOf.sizeOf v
  decreasing_by
    have:=List.sizeOf_lt_of_mem hx
    simp;omega
inductive Sk where
  | d (v:Value)
  | nil
  | row (z:Option Nat) (n:Nat) (cs:List Sk)
inductive Ld where
  | d (v:Value)
  | nil
  | row (z:Option Nat) (b n:Nat) (cs:List Ld)
def rowV (z:Option Nat) (b n:Nat):SV:=match z with | none=>.os b 0 n | some sz=>.sk b n sz
@[simp] theorem rowV_none (b n:Nat):rowV none b n=.os b 0 n:=(rfl)
@[simp] theorem rowV_some (b n sz:Nat):rowV (some sz) b n=.sk b n sz:=(rfl)
def Ld.sv:Ld→SV
  | .d v=>.d (.v v)
  | .nil=>.fl [] 0
  | .row z b n _=>rowV z b n
@[simp] theorem Ld.sv_d (v:Value):(Ld.d v).sv=.d (.v v):=(rfl)
@[simp] theorem Ld.sv_nil:Ld.nil.sv=.fl [] 0:=(rfl)
@[simp] theorem Ld.sv_row (z:Option Nat) (b n:Nat) (cs:List Ld):(Ld.row z b n cs).sv=rowV z b n:=(rfl)
def svs (cs:List Ld):List SV:=cs.map Ld.sv
@[simp] theorem svs_nil:svs []=[]:=(rfl)
@[simp] theorem svs_cons (x:Ld) (cs:List Ld):svs (x::cs)=x.sv::svs cs:=(rfl)
mutual
def Ld.vars:Ld→List (Nat×List SV)
  | .d _=>[]
  | .nil=>[]
  | .row _ b _ cs=>(b,svs cs)::varsL cs
def varsL:List Ld→List (Nat×List SV)
  | []=>[]
  | x::r=>x.vars++varsL r
end
mutual
def Sk.cnt:Sk→Nat
  | .d _=>0
  | .nil=>0
  | .row _ _ cs=>1+cntL cs
def cntL:List Sk→Nat
  | []=>0
  | x::r=>x.cnt+cntL r
end
mutual
def Sk.can (k:Nat):Sk→Ld
  | .d v=>.d v
  | .nil=>.nil
  | .row z n cs=>.row z k n (canL (k+1) cs)
def canL (k:Nat):List Sk→List Ld
  | []=>[]
  | x::r=>x.can k::canL (k+x.cnt) r
end
mutual
def Sk.data:Sk→D
  | .d v=>.v v
  | .nil=>.ps [] 0
  | .row _ n cs=>.ps (dataL cs) n
def dataL:List Sk→List D
  | []=>[]
  | x::r=>x.data::dataL r
end
theorem varsL_app:∀ a b:List Ld,varsL (a++b)=varsL a++varsL b
  | [],b=>rfl
  | x::r,b=>by simp[varsL,varsL_app r b]
theorem can_sv (k m:Nat) (x:Sk):(x.can k).sv.shift m=(x.can (m+k)).sv:=by
  cases x with
  | d v=>simp[Sk.can]
  | nil=>simp[Sk.can]
  | row z n cs=>cases z<;>simp[Sk.can,SV.shift]
theorem canL_svs (m:Nat):∀ (k:Nat) (cs:List Sk),(svs (canL k cs)).map (SV.shift m)=svs (canL (m+k) cs)
  | k,[]=>by simp[canL]
  | k,x::r=>by
    simp[canL,can_sv,canL_svs m (k+x.cnt) r,Nat.add_assoc]
abbrev shV (m:Nat) (p:Nat×List SV):Nat×List SV:=(m+p.1,p.2.map (SV.shift m))
mutual
theorem can_vars (m:Nat):∀ (k:Nat) (x:Sk),(x.can k).vars.map (shV m)=(x.can (m+k)).vars
  | k, .d v=>by simp[Sk.can,Ld.vars]
  | k, .nil=>by simp[Sk.can,Ld.vars]
  | k, .row z n cs=>by
    have h1:=canL_svs m (k+1) cs
    have h2:=canL_vars m (k+1) cs
    simp only[Sk.can,Ld.vars,List.map_cons,shV,h1,h2,Nat.add_assoc]
theorem canL_vars (m:Nat):∀ (k:Nat) (cs:List Sk),(varsL (canL k cs)).map (shV m)=varsL (canL (m+k) cs)
  | k,[]=>by simp[canL,varsL]
  | k,x::r=>by
    simp only[canL,varsL,List.map_append,can_vars m k x,canL_vars m (k+x.cnt) r,Nat.add_assoc]
end
mutual
theorem can_ids:∀ (k:Nat) (x:Sk),(x.can k).vars.map (·.1)=(List.range x.cnt).map (k + ·)
  | k, .d v=>by simp[Sk.can,Ld.vars,Sk.cnt]
  | k, .nil=>by simp[Sk.can,Ld.vars,Sk.cnt]
  | k, .row z n cs=>by
    simp only[Sk.can,Ld.vars,List.map_cons,Sk.cnt,canL_ids (k+1) cs]
    rw[Nat.add_comm 1,List.range_succ_eq_map]
    simp only[List.map_cons,List.map_map,Nat.add_zero,List.cons.injEq,true_and]
    refine List.map_congr_left fun i _=>?_
    simp only[Function.comp_apply];omega
theorem canL_ids:∀ (k:Nat) (cs:List Sk),(varsL (canL k cs)).map (·.1)=(List.range (cntL cs)).map (k + ·)
  | k,[]=>by simp[canL,varsL,cntL]
  | k,x::r=>by
    simp only[canL,varsL,List.map_append,can_ids k x,canL_ids (k+x.cnt) r,cntL]
    rw[List.range_add,List.map_append,List.map_map]
    congr 1
    refine List.map_congr_left fun i _=>?_
    simp only[Function.comp_apply];omega
end
theorem canL_nodup (k:Nat) (cs:List Sk):((varsL (canL k cs)).map (·.1)).Nodup:=by
  rw[canL_ids]
  refine List.Pairwise.map _ (R:=(·≠·)) (fun a b h=>by omega) List.nodup_range
theorem canL_rng {k:Nat}{cs:List Sk}{p:Nat×List SV} (h:p∈varsL (canL k cs)):k≤p.1∧p.1<k+cntL cs:=by
  have:p.1∈(varsL (canL k cs)).map (·.1):=List.mem_map_of_mem h
  rw[canL_ids] at this
  obtain⟨i,h1,h2⟩:=List.mem_map.1 this
  have:=List.mem_range.1 h1
  omega
theorem lookN_of {V:List (Nat×List SV)} (hd:(V.map (·.1)).Nodup) {p:Nat×List SV} (h:p∈V):lookN V p.1=some p.2:=by
  induction V with
  | nil=>simp at h
  | cons q V ih =>
    simp only[List.map_cons,List.nodup_cons] at hd
    have e:lookN (q::V) p.1=if p.1=q.1 then some q.2 else lookN V p.1:=rfl
    rw[e]
    rcases List.mem_cons.1 h with h1 | h1
    · subst h1;exact if_pos rfl
    · rw[if_neg fun e=>hd.1 (List.mem_map.2 ⟨p,h1,e⟩)]
      exact ih hd.2 h1
structure At (S:St) (lo hi:Nat) (cs:List Ld):Prop where
  has:∀ p∈varsL cs,S.B p.1=some p.2
  nodup:((varsL cs).map (·.1)).Nodup
  rng:∀ p∈varsL cs,lo≤p.1∧p.1<hi
theorem At.nil {S:St}{lo hi:Nat}:At S lo hi []:=⟨by simp[varsL],by simp[varsL],by simp[varsL]⟩
theorem At.app {S:St}{lo mid hi:Nat}{a b:List Ld} (ha:At S lo mid a) (hb:At S mid hi b) (h1:lo≤mid) (h2:mid≤hi):At S lo hi (a++b):=by
  refine⟨fun p hp=>?_,?_,fun p hp=>?_⟩
  · rw[varsL_app] at hp
    rcases List.mem_append.1 hp with hp | hp
    · exact ha.has p hp
    · exact hb.has p hp
  · rw[varsL_app,List.map_append]
    refine List.nodup_append.2 ⟨ha.nodup,hb.nodup,fun x hx y hy e=>?_⟩
    obtain⟨p,hp,rfl⟩:=List.mem_map.1 hx
    obtain⟨q,hq,rfl⟩:=List.mem_map.1 hy
    have:=ha.rng p hp
    have:=hb.rng q hq
    omega
  · rw[varsL_app] at hp
    rcases List.mem_append.1 hp with hp | hp
    · have:=ha.rng p hp;omega
    · have:=hb.rng p hp;omega
theorem At.keep {S S':St}{lo hi:Nat}{a:List Ld} (ha:At S lo hi a) (h:∀ b,lo≤b→b<hi→S'.B b=S.B b):At S' lo hi a :=
  ⟨fun p hp=>by have:=ha.rng p hp;rw[h _ this.1 this.2];exact ha.has p hp,ha.nodup,ha.rng⟩
theorem At.row {S:St}{lo hi b n:Nat}{z:Option Nat}{cs:List Ld} (hb:S.B b=some (svs cs)) (hlo:lo≤b) (hhi:b<hi) (hc:At S lo hi cs) (hn:∀ p∈varsL cs,p.1≠b):At S lo hi [.row z b n cs]:=by
  refine⟨fun p hp=>?_,?_,fun p hp=>?_⟩
  · simp only[varsL,Ld.vars,List.append_nil,List.mem_cons] at hp
    rcases hp with rfl | hp
    · exact hb
    · exact hc.has p hp
  · simp only[varsL,Ld.vars,List.append_nil,List.map_cons,List.nodup_cons]
    refine⟨fun h=>?_,hc.nodup⟩
    obtain⟨p,hp,e⟩:=List.mem_map.1 h
    exact hn p hp e
  · simp only[varsL,Ld.vars,List.append_nil,List.mem_cons] at hp
    rcases hp with rfl | hp
    · exact⟨hlo,hhi⟩
    · exact hc.rng p hp
@[simp] theorem mapO_frzd (B:Nat→Option (List SV)) (k:Nat) (cs:List D):mapO (frz B (k+1)) (cs.map SV.d)=some cs:=by
  induction cs with
  | nil=>rfl
  | cons x r ih=>simp only[List.map_cons,mapO,ih];rfl
abbrev newL (cs:List Sk):Nat→Option (List SV):=lookN (varsL (canL 0 cs))
theorem _root_.Go.Sh.CallT.f {P:Program}{S:St}{lo:Lo}{g:FuncId}{ss:List SV}{K:Bool→SV→St→Prop}{ds:List D}{r:SV}{k n:Nat}{B:Nat→Option (List SV)}{gl:Nat→Option D} (h:FCall P gl g ds r k B) (hg:S.gl=gl) (hl:lo.loud=true) (hd:mapO (frz S.B n) ss=some ds)
    (kk:K true (r.shift S.nx) (addS S k B)):CallT lo P g ss S K:=.l (.ofF (by rw[hg];exact h) hd) hl kk
theorem _root_.Go.Sh.FCall.own {P:Program}{S:St}{g:FuncId}{ss:List SV}{ds:List D}{r:SV}{k n base top:Nat}{B:Nat→Option (List SV)}{gl:Nat→Option D} (h:FCall P gl g ds r k B) (hg:S.gl=gl) (hx:top≤S.nx)
    (hd:∀ B':Nat→Option (List SV),(∀ b,b<base→B' b=S.B b)→mapO (frz B' n) ss=some ds):OwnK P g ss S base top (r.shift S.nx) (fun B0 x=>if x<S.nx then B0 x else if x<S.nx+k then (B (x - S.nx)).map (·.map (SV.shift S.nx)) else none) (S.nx+k):=by
  refine⟨fun S1 k1 k2 k3 k4 k5 k6=>?_,fun B0 q cs hq=>?_,fun B0 b hb=>if_pos (by omega),fun B0 C b hb=>?_⟩
  · have:=LCall.ofF (S:=S1) (by rw[k3,hg];exact h) (hd S1.B k6)
    rw[← k2]
    exact this
  · funext x
    simp only[upd]
    by_cases e:x=q
    · rw[if_pos e,if_pos (by omega)];simp[e]
    · rw[if_neg e];simp[e]
  · simp only[hb]
theorem _root_.Go.Sh.CallT.o {P:Program}{A:Ar}{base i:Nat}{Eh:Eh}{S:St}{g:FuncId}{ss:List SV}{K:Bool→SV→St→Prop}{ds:List D}{r:SV}{k n:Nat}{B:Nat→Option (List SV)}{gl:Nat→Option D} (l:Go.Sh.Old) (h:FCall P gl g ds r k B) (hg:S.gl=gl)
    (hf:freeAt A.a i=true) (hl:oldOf A.a i=l) (ho:OldT l base Eh.e) (hx:base+A.a.size≤S.nx) (hd:∀ B':Nat→Option (List SV),(∀ b,b<base→B' b=S.B b)→mapO (frz B' n) ss=some ds) (kk:K true (r.shift S.nx) (addS S k B)):CallT (@LoudT true A base i Eh) P g ss S K :=
  .own l hf hl ho (h.own hg hx hd) kk
theorem At.old {S:St}{lo hi K:Nat}{B:Nat→Option (List SV)}{cs:List Ld} (h:At S lo hi cs) (hh:hi≤S.nx):At (addS S K B) lo hi cs :=
  h.keep fun b _ h2=>by rw[addS_B,if_pos (by omega)]
theorem At.added (S:St) (cs:List Sk):At (addS S (cntL cs) (newL cs)) S.nx (S.nx+cntL cs) (canL S.nx cs):=by
  refine⟨fun p hp=>?_,canL_nodup _ _,fun p hp=>canL_rng hp⟩
  have hr:=canL_rng hp
  have e:=canL_vars S.nx 0 cs
  rw[Nat.add_zero] at e
  rw[← e] at hp
  obtain⟨q,hq,rfl⟩:=List.mem_map.1 hp
  rw[addS_B,if_neg (by simp),if_pos (by simp only[] at hr ⊢;omega)]
  simp only[Nat.add_sub_cancel_left,newL]
  rw[lookN_of (canL_nodup 0 cs) hq]
  rfl
theorem At.new {S':St}{q:Nat}{cs:List Sk} (h:∀ b,q≤b→b<q+cntL cs→S'.B b=(newL cs (b - q)).map (·.map (SV.shift q))):At S' q (q+cntL cs) (canL q cs):=by
  let S0:St:={ B:=fun _=>none,T:=fun _=>none,n:=0,md:=[],gl:=fun _=>none,nx:=q }
  exact (At.added S0 cs).keep fun b h1 h2=>by
    have h3:q≤b:=h1
    rw[h b h1 h2,addS_B,if_neg (show ¬ b<q by omega),if_pos (by exact h2)]
def AccD (sz:Nat) (S:St) (X:SV) (cs:List D) (n:Nat):Prop:=(n=0∧cs=[]∧X=.fl [] 0)∨(0<n∧∃ i,i<S.nx∧X=.tp i 0 cs n∧S.T i=some (n,sz))
theorem AccD.nil {sz:Nat}{S:St}:AccD sz S (.fl [] 0) [] 0:=.inl ⟨rfl,rfl,rfl⟩
theorem AccD.mono {sz:Nat}{S S':St}{X:SV}{cs:List D}{n:Nat} (h:AccD sz S X cs n) (hn:S.nx≤S'.nx) (hT:∀ i,i<S.nx→S'.T i=S.T i):AccD sz S' X cs n :=
  h.imp id fun ⟨a,i,h1,h2,h3⟩=>⟨a,i,by omega,h2,(hT i h1).trans h3⟩
theorem AccD.other {sz sz' m q:Nat}{S S':St}{X:SV}{cs:List D}{n:Nat} (h:AccD sz S X cs n) (hq:S.T q=some (m,sz')) (hne:sz'≠sz) (hn:S.nx≤S'.nx) (hT:∀ i,i<S.nx→i≠q→S'.T i=S.T i):AccD sz S' X cs n :=
  h.imp id fun ⟨a,i,h1,h2,h3⟩=>⟨a,i,by omega,h2,(hT i h1 (fun e=>by rw[e,hq] at h3;simp at h3;exact hne h3.2)).trans h3⟩
theorem AccD.frz {sz:Nat}{S:St}{X:SV}{cs:List D}{n k:Nat}{B:Nat→Option (List SV)} (h:AccD sz S X cs n):Go.Sh.frz B (k+1) X=some (.ps cs n):=by
  rcases h with ⟨rfl,rfl,rfl⟩ | ⟨_,i,_,rfl,_⟩<;>rfl
theorem AccD.one {sz:Nat}{S:St}{X:SV}{cs:List D}{n:Nat} (h:AccD sz S X cs n):X.one=true∧X.cells=[X]∧X.cell=true:=by
  rcases h with ⟨rfl,rfl,rfl⟩ | ⟨_,i,_,rfl,_⟩<;>exact⟨rfl,rfl,rfl⟩
def skR (e:Bool) (n:Nat) (cs:List Sk):Sk:=if n=0∧e=false then .nil else .row none n cs
def skS (e:Bool) (l:List ByteArray):Sk:=skR e l.length (l.map fun s=>.d (.string s))
mutual
def Val.sk (e:Bool):Val→List Sk
  | .mk k n t l ns=>[.d (.int .i64 k), .d (.int .i64 n), .d (.string t),skR e l.length (valsSk e l),skS e ns]
def valsSk (e:Bool):List Val→List Sk
  | []=>[]
  | v::r=>v.sk e++valsSk e r
end
theorem At.mono {S S':St}{lo hi:Nat}{a:List Ld} (ha:At S lo hi a) (h:S'.B=S.B):At S' lo hi a:=ha.keep fun b _ _=>by rw[h]
theorem At.skip {S S':St}{lo hi q:Nat}{cs:List SV}{a:List Ld} (ha:At S lo hi a) (hq:q<lo∨hi≤q) (h:S'.B=upd S.B q cs):At S' lo hi a:=ha.keep fun b h1 h2=>by rw[h,upd_ne _ _ (by omega)]
inductive Typ where
  | mk (name:ByteArray) (of:List Typ) (must:Bool)
  deriving Inhabited
mutual
def Typ.cells:Typ→List D
  | .mk t l b=>[dS t, .ps (typsCells l) l.length,dB b]
def typsCells:List Typ→List D
  | []=>[]
  | v::r=>v.cells++typsCells r
end
abbrev Typ.d (v:Typ):D:=.agg v.cells
abbrev typsD (l:List Typ):D:=.ps (typsCells l) l.length
theorem tcells_len (v:Typ):v.cells.length=3:=by cases v;rfl
@[simp] theorem take_tcells (v:Typ):v.cells.take 3=v.cells:=List.take_of_length_le (by rw[tcells_len];exact Nat.le_refl _)
@[simp] theorem take_tcellsS (v:Typ):(v.cells.map SV.d).take 3=v.cells.map SV.d:=List.take_of_length_le (by rw[List.length_map,tcells_len];exact Nat.le_refl _)
theorem typsCells_row:∀ l:List Typ,typsCells l=l.flatMap Typ.cells
  | []=>by simp[typsCells]
  | v::r=>by rw[typsCells,typsCells_row r,List.flatMap_cons]
theorem typsCells_len (l:List Typ):(typsCells l).length=l.length*3:=by rw[typsCells_row,row_len tcells_len]
theorem typsCells_at (l:List Typ) {i:Nat} (hi:i<l.length):((typsCells l).drop (i*3)).take 3=(l[i]).cells:=by rw[typsCells_row,row_at tcells_len l i hi]
inductive TLe (n:Nat):Typ→Prop
  | mk {t:ByteArray} {l:List Typ} {b:Bool} (ht:t.size≤n) (hl:l.length≤n) (h:∀ v∈l,TLe n v):TLe n (.mk t l b)
theorem TLe.mono {n m:Nat} (hnm:n≤m):∀ {v:Typ},TLe n v→TLe m v
  | .mk t l b, .mk ht hl h=>.mk (by omega) (by omega) fun v hv =>
    have:=List.sizeOf_lt_of_mem hv
    TLe.mono hnm (h v hv)
termination_by v=>SizeOf.sizeOf v
decreasing_by
  simp_wf
  omega
def szGoR {α:Type} (f:α→Int→Int):List α→Int→Int
  | [],r=>r
  | x::l,r=>if f x r<0 then -1 else szGoR f l (f x r)
def szRow {α:Type} (f:α→Int→Int) (l:List α) (left:Int):Int:=if left - l.length<0 then -1 else szGoR f l (left - l.length)
def SzLe {α:Type} (f:α→Int→Int) (x:α):Prop:=∀ r, -1≤r→-1≤f x r∧f x r≤r
theorem szGoR_le {α:Type}{f:α→Int→Int}:∀ (l:List α),(∀ x∈l,SzLe f x)→∀ r, -1≤r→-1≤szGoR f l r∧szGoR f l r≤r
  | [],_,r,h=>by simp only[szGoR];omega
  | x::l,hf,r,h=>by
    simp only[szGoR]
    have h1:=hf x (List.mem_cons_self ..) r h
    split
    · omega
    · have:=szGoR_le l (fun y hy=>hf y (List.mem_cons_of_mem _ hy)) (f x r) (by omega)
      omega
theorem szRow_le {α:Type}{f:α→Int→Int}{l:List α} (hf:∀ x∈l,SzLe f x):SzLe (szRow f) l:=fun r h=>by
  unfold szRow
  split
  · omega
  · have:=szGoR_le l hf (r - l.length) (by omega)
    omega
theorem szGoR_small {α:Type}{f:α→Int→Int}:∀ (l:List α),(∀ x∈l,SzLe f x)→∀ r, -1≤r→0≤szGoR f l r→∀ x∈l,∃ q, -1≤q∧q≤r∧0≤f x q
  | [],_,r,_,_,x,hx=>by simp at hx
  | y::l,hf,r,h0,h,x,hx=>by
    simp only[szGoR] at h
    have h1:=hf y (List.mem_cons_self ..) r h0
    split at h
    · omega
    · rcases List.mem_cons.1 hx with rfl | hx
      · exact⟨r,h0,Int.le_refl _,by omega⟩
      · obtain⟨q,a,b,c⟩:=szGoR_small l (fun y hy=>hf y (List.mem_cons_of_mem _ hy)) (f y r) (by omega) h x hx
        exact⟨q,a,by omega,c⟩
theorem szRow_small {α:Type}{f:α→Int→Int}{l:List α} (hf:∀ x∈l,SzLe f x) {r:Int} (h0 : -1≤r) (h:0≤szRow f l r):(l.length:Int)≤r∧∀ x∈l,∃ q, -1≤q∧q≤r∧0≤f x q:=by
  unfold szRow at h
  split at h
  · omega
  · have h1:=szGoR_le l hf (r - l.length) (by omega)
    refine⟨by omega,fun x hx=>?_⟩
    obtain⟨q,a,b,c⟩:=szGoR_small l hf (r - l.length) (by omega) h x hx
    exact⟨q,a,by omega,c⟩
mutual
def szT:Typ→Int→Int
  | .mk t l _,left=>if left - t.size<0 then -1 else if szTs l (left - t.size)<0 then -1 else szTs l (left - t.size)
def szTs:List Typ→Int→Int
  | l,left=>if left - l.length<0 then -1 else szTgo l (left - l.length)
def szTgo:List Typ→Int→Int
  | [],r=>r
  | v::l,r=>if szT v r<0 then -1 else szTgo l (szT v r)
end
theorem szTgo_eq:∀ (l:List Typ) (r:Int),szTgo l r=szGoR szT l r
  | [],r=>by simp only[szTgo,szGoR]
  | v::l,r=>by simp only[szTgo,szGoR,szTgo_eq l]
theorem szTs_eq (l:List Typ) (r:Int):szTs l r=szRow szT l r:=by
  rw[szTs,szRow,szTgo_eq]
theorem szT_le:∀ v:Typ,SzLe szT v
  | .mk t l b=>fun r h=>by
    have hl:∀ x∈l,SzLe szT x:=fun x hx =>
      have:=List.sizeOf_lt_of_mem hx
      szT_le x
    have:=szRow_le hl (r - t.size)
    simp only[szT,szTs_eq]
    split
    · omega
    · split
      · omega
      · have:=this (by omega);omega
termination_by v=>SizeOf.sizeOf v
decreasing_by
  simp_wf
  omega
theorem szT_small:∀ (v:Typ) (r:Int),r≤1048576→0≤szT v r→TLe 1048576 v
  | .mk t l b,r,hr,h=>by
    simp only[szT,szTs_eq] at h
    split at h
    · omega
    · split at h
      · omega
      · obtain⟨a,b⟩:=szRow_small (fun x _=>szT_le x) (r:=r - t.size) (by omega) h
        refine .mk (by omega) (by omega) fun x hx=>?_
        obtain⟨q,q1,q2,q3⟩:=b x hx
        have:=List.sizeOf_lt_of_mem hx
        exact szT_small x q (by omega) q3
termination_by v=>SizeOf.sizeOf v
decreasing_by
  simp_wf
  omega
set_option maxHeartbeats 1000000 in
theorem p_szTypeS_of (l:List Typ) (hl:l.length≤4611686018427387904) (ih:∀ i (h:i<l.length) (left:Int),0≤left→left≤4611686018427387904→PCall Tryz.prog gl 198 [l[i].d,dI left] (dI (szT l[i] left))) (hle:∀ x∈l,SzLe szT x) (left:Int) (h0:0≤left) (hb:left≤4611686018427387904) :
    PCall Tryz.prog gl 224 [typsD l,dI left] (dI (szRow szT l left)):=by
  refine PCall.by_ (md:=[]) Tryz.func224 rfl (by kernel_rfl) (n:=27) Tryz.ntmps224 (by simp) (by decide) rfl ?_
  have w0:IntKind.i64.wrap (left - l.length)=left - l.length:=wrap64 (by omega) (by omega)
  simp[w0]
  refine BrT.dec (fun h=>?_) (fun h=>?_)
  · have:szRow szT l left = -1:=by rw[szRow,if_pos (by omega)]
    simp[h,this]
  have hsz:szRow szT l left=szGoR szT l (left - l.length):=by rw[szRow,if_neg (by omega)]
  simp[h]
  refine LoopT.round (fun E S=>∃ (i:Nat) (r:Int),(i≤l.length)∧(0≤r)∧(r≤4611686018427387904)∧E 0=some (.d (typsD l))∧E 1=some (.d (dI r))∧E 5=some (.d (dI i))∧(szGoR szT (l.drop i) r=szRow szT l left)) (upTo 5 l.length) ⟨0,left - l.length,by simp[hsz];omega⟩ ?_
  rintro E S hk ⟨i,r,hi,hr0,hr1,h0,h1,h5,hp⟩
  have hn:S.n=27:=by first | (simpa using hk.n)|(have hh:=hk.n;simp[w0,h] at hh;exact hh)
  have hg:S.gl=gl:=by first | (simpa using hk.gl)|(have hh:=hk.gl;simp[w0,h] at hh;exact hh)
  have hmd:S.md=[]:=by first | (simpa using hk.md)|(have hh:=hk.md;simp[w0,h] at hh;exact hh)
  simp[h0,h5,hn,hg]
  have w:=wrap64 (n:=(i:Int)+1) (by omega) (by omega)
  refine BrT.dec (fun c=>?_) (fun c=>?_)
  · have hi2:i<l.length:=by omega
    have hlen:=typsCells_len l
    have hfit:i*3+3≤l.length*3:=by omega
    have hd:szGoR szT (l.drop i) r=if szT l[i] r<0 then -1 else szGoR szT (l.drop (i+1)) (szT l[i] r):=by
      rw[List.drop_eq_getElem_cons hi2];simp only[szGoR]
    have hle2:=hle l[i] (List.getElem_mem hi2) r (by omega)
    simp[h0,h1,h5,hn,c,hlen,hfit,typsCells_at]
    repeat refine⟨DrawT.mk (by kernel_rfl),?_⟩
    refine CallT.p0 (ih i hi2 r hr0 hr1) (by first | rfl | (simp;done)|(simp[hg];done)) (by first | rfl | (simp;done)|(simp;rfl)|(simp[w0,h,h0,h1,h5,hn,hg,hmd,c];done)) ?_
    simp[hn]
    refine BrT.dec (fun he=>?_) (fun he=>?_)
    · rw[hd,if_pos he] at hp
      simp[hn,he,hp]
    · rw[hd,if_neg he] at hp
      simp[h0,h5,hn,he,w]
      exact⟨⟨i+1,by omega,szT l[i] r,by omega,by omega,rfl,by omega,hp⟩,upTo_lt h5 (by simp) hi2⟩
  · rw[List.drop_eq_nil_of_le (by omega)] at hp
    simp only[szGoR] at hp
    simp[h1,hn,c, ← hp]
abbrev zType:List SV:=[.d (dS ⟨#[]⟩), .fl [] 0, .d (dB false)]
abbrev sType (v:Typ):List SV:=v.cells.map .d
theorem sType_len (v:Typ):(sType v).length=3:=by rw[List.length_map,tcells_len]
theorem sType_row (l:List Typ):l.flatMap sType=(typsCells l).map .d:=by
  rw[typsCells_row]
  induction l with
  | nil=>rfl
  | cons v r ih=>simp[ih]
theorem madeS_zType (n:Nat):madeS zType 3 n=(List.replicate n zType).flatten:=madeS_row zType n
set_option maxHeartbeats 1000000 in
theorem p_toTypeS_of (l:List Typ) (hl:l.length≤1048576) (ih:∀ i (h:i<l.length),PCall Tryz.prog gl 200 [l[i].d] l[i].d):PCall Tryz.prog gl 226 [typsD l] (typsD l):=by
  refine PCall.by_ (md:=[]) Tryz.func226 rfl (by kernel_rfl) (n:=23) Tryz.ntmps226 (by simp) (by decide) rfl ?_
  simp
  refine⟨by omega,?_⟩
  refine LoopT.round (fun E S=>∃ (i:Nat),(i≤l.length)∧E 0=some (.d (typsD l))∧E 3=some (.os 3 0 l.length)∧E 4=some (.d (dI i))∧S.B 3=some (filled sType zType l i)) (upTo 4 l.length) ⟨0,by simp[filled_none,madeS_zType]⟩ ?_
  rintro E S hk ⟨i,hi,h0,h3,h4,hB3⟩
  have hn:S.n=23:=by first | (simpa using hk.n)|(have hh:=hk.n;simp at hh;exact hh)
  have hg:S.gl=gl:=by first | (simpa using hk.gl)|(have hh:=hk.gl;simp at hh;exact hh)
  have hmd:S.md=[]:=by first | (simpa using hk.md)|(have hh:=hk.md;simp at hh;exact hh)
  simp[h0,h4,hn,hg]
  have w:=wrap64 (n:=(i:Int)+1) (by omega) (by omega)
  refine BrT.dec (fun h=>?_) (fun h=>?_)
  · have hi2:i<l.length:=by omega
    have hlen:=typsCells_len l
    have hfit:i*3+3≤l.length*3:=by omega
    have hflen:=filled_len (enc:=sType) (z:=zType) sType_len rfl l hi
    have hnext:=filled_next (enc:=sType) (z:=zType) sType_len rfl l hi2
    simp[h0,h3,h4,hn,h,hlen,hfit,typsCells_at]
    repeat refine⟨DrawT.mk (by kernel_rfl),?_⟩
    refine CallT.p0 (ih i hi2) (by first | rfl | (simp;done)|(simp[hg];done)) (by first | rfl | (simp;done)|(simp;rfl)|(simp[h0,h3,h4,hB3,hn,hg,hmd,h];done)) ?_
    simp[h0,h3,h4,hB3,hn,h,  w,hflen,hfit,tcells_len]
    refine⟨⟨i+1,by omega,by omega,?_⟩,upTo_lt h4 (by simp) hi2⟩
    rw[← hnext]
    simp
  · have hi3:i=l.length:=by omega
    subst hi3
    rw[filled_all,sType_row] at hB3
    simp[h3,hB3,hn,h]
set_option maxHeartbeats 1000000 in
theorem p_eqTypeS_of (l:List Typ) (hl:l.length≤4611686018427387904) (ih:∀ i (h:i<l.length),PCall Tryz.prog gl 204 [l[i].d,l[i].d] (dB true)):PCall Tryz.prog gl 229 [typsD l,typsD l] (dB true):=by
  refine PCall.by_ (md:=[]) Tryz.func229 rfl (by kernel_rfl) (n:=27) Tryz.ntmps229 (by simp) (by decide) rfl ?_
  simp
  refine LoopT.round (fun E S=>∃ (i:Nat),(i≤l.length)∧E 0=some (.d (typsD l))∧E 1=some (.d (typsD l))∧E 5=some (.d (dI i))) (upTo 5 l.length) ⟨0,by simp⟩ ?_
  rintro E S hk ⟨i,hi,h0,h1,h5⟩
  have hn:S.n=27:=by first | (simpa using hk.n)|(have hh:=hk.n;simp at hh;exact hh)
  have hg:S.gl=gl:=by first | (simpa using hk.gl)|(have hh:=hk.gl;simp at hh;exact hh)
  have hmd:S.md=[]:=by first | (simpa using hk.md)|(have hh:=hk.md;simp at hh;exact hh)
  simp[h0,h5,hn,hg]
  have w:=wrap64 (n:=(i:Int)+1) (by omega) (by omega)
  refine BrT.dec (fun h=>?_) (fun h=>?_)
  · have hi2:i<l.length:=by omega
    have hlen:=typsCells_len l
    have hfit:i*3+3≤l.length*3:=by omega
    simp[h0,h1,h5,hn,h,hlen,hfit,typsCells_at]
    repeat refine⟨DrawT.mk (by kernel_rfl),?_⟩
    refine CallT.p0 (ih i hi2) (by first | rfl | (simp;done)|(simp[hg];done)) (by first | rfl | (simp;done)|(simp;rfl)|(simp[h0,h1,h5,hn,hg,hmd,h];done)) ?_
    simp[h0,h1,h5,hn,w]
    exact⟨⟨i+1,by omega,by omega⟩,upTo_lt h5 (by simp) hi2⟩
  · simp[hn,h]
set_option maxHeartbeats 1000000 in
theorem p_szType (v:Typ) (hv:TLe 4611686018427387904 v) (left:Int) (h0:0≤left) (hb:left≤4611686018427387904):PCall Tryz.prog gl 198 [v.d,dI left] (dI (szT v left)):=by
  match v,hv with
  | .mk t l b, .mk ht hl hwf =>
    have hs:=p_szTypeS_of (gl:=gl) l hl (fun i hi left a b =>
      have:=List.sizeOf_lt_of_mem (List.getElem_mem hi)
      p_szType l[i] (hwf _ (List.getElem_mem hi)) left a b) (fun x _=>szT_le x)
    refine PCall.by_ (md:=[]) Tryz.func198 rfl (by kernel_rfl) (n:=19) Tryz.ntmps198 (by simp) (by decide) rfl ?_
    have w0:IntKind.i64.wrap (left - t.size)=left - t.size:=wrap64 (by omega) (by omega)
    simp[w0,Typ.cells]
    refine BrT.dec (fun h=>?_) (fun h=>?_)
    case refine_1=>simp[h,szT]<;>omega
    simp[h]
    repeat refine⟨DrawT.mk (by kernel_rfl),?_⟩
    refine CallT.p0 (hs (left - t.size) (by omega) (by omega)) (by first | rfl | (simp;done)|(simp[w0,h];done)) (by first | rfl | (simp;done)|(simp;rfl)|(simp[w0,h];done)) ?_
    simp
    have e:szT (.mk t l b) left=if szRow szT l (left - t.size)<0 then -1 else szRow szT l (left - t.size):=by
      rw[szT,if_neg (by omega),szTs_eq]
    refine BrT.dec (fun h1=>?_) (fun h1=>?_)
    case refine_1=>simp[h1,e]
    simp[h1,e]
  termination_by SizeOf.sizeOf v
  decreasing_by
  simp_wf
  omega
set_option maxHeartbeats 1000000 in
theorem p_toType (v:Typ) (hv:TLe 1048576 v):PCall Tryz.prog gl 200 [v.d] v.d:=by
  match v,hv with
  | .mk t l b, .mk ht hl hwf =>
    have hs:=p_toTypeS_of (gl:=gl) l hl (fun i hi =>
      have:=List.sizeOf_lt_of_mem (List.getElem_mem hi)
      p_toType l[i] (hwf _ (List.getElem_mem hi)))
    refine PCall.by_ (md:=[]) Tryz.func200 rfl (by kernel_rfl) (n:=15) Tryz.ntmps200 (by simp) (by decide) rfl ?_
    simp[Typ.cells]
    repeat refine⟨DrawT.mk (by kernel_rfl),?_⟩
    refine CallT.p0 (hs) (by first | rfl | (simp;done)|(simp;done)) (by first | rfl | (simp;done)|(simp;rfl)|(simp;done)) ?_
    simp[ Typ.cells]
  termination_by SizeOf.sizeOf v
  decreasing_by
  simp_wf
  omega
set_option maxHeartbeats 1000000 in
theorem p_eqType (v:Typ) (hv:TLe 4611686018427387904 v):PCall Tryz.prog gl 204 [v.d,v.d] (dB true):=by
  match v,hv with
  | .mk t l b, .mk ht hl hwf =>
    have hs:=p_eqTypeS_of (gl:=gl) l hl (fun i hi =>
      have:=List.sizeOf_lt_of_mem (List.getElem_mem hi)
      p_eqType l[i] (hwf _ (List.getElem_mem hi)))
    refine PCall.by_ (md:=[]) Tryz.func204 rfl (by kernel_rfl) (n:=21) Tryz.ntmps204 (by simp) (by decide) rfl ?_
    simp[Typ.cells]
    repeat refine⟨DrawT.mk (by kernel_rfl),?_⟩
    refine CallT.p0 (hs) (by first | rfl | (simp;done)|(simp;done)) (by first | rfl | (simp;done)|(simp;rfl)|(simp;done)) ?_
    simp
  termination_by SizeOf.sizeOf v
  decreasing_by
  simp_wf
  omega
structure Arg where
  name:ByteArray
  ty:Typ
  has:Bool
  els:Val
def Arg.cells (a:Arg):List D:=dS a.name::(a.ty.cells++dB a.has::a.els.cells)
abbrev Arg.d (a:Arg):D:=.agg a.cells
def argsCells (l:List Arg):List D:=l.flatMap Arg.cells
abbrev argsD (l:List Arg):D:=.ps (argsCells l) l.length
theorem acells_len (a:Arg):a.cells.length=10:=by simp[Arg.cells,cells_len,tcells_len]
theorem args_row (l:List Arg):argsCells l=l.flatMap Arg.cells:=rfl
theorem args_len (l:List Arg):(argsCells l).length=l.length*10:=row_len acells_len l
theorem args_at (l:List Arg) {i:Nat} (hi:i<l.length):((argsCells l).drop (i*10)).take 10=(l[i]).cells:=row_at acells_len l i hi
structure ALe (n:Nat) (a:Arg):Prop where
  name:a.name.size≤n
  ty:TLe n a.ty
def ArgOk (a:Arg):Prop:=a.name.size≤4611686018427387904∧TLe 4611686018427387904 a.ty∧WF a.els
def ArgSm (a:Arg):Prop:=a.name.size≤1048576∧TLe 1048576 a.ty∧Small a.els
def szA (a:Arg) (left:Int):Int:=if left - a.name.size<0 then -1 else if szT a.ty (left - a.name.size)<0 then -1 else if szV a.els (szT a.ty (left - a.name.size))<0 then -1 else szV a.els (szT a.ty (left - a.name.size))
theorem szA_le (a:Arg):SzLe szA a:=fun r h=>by
  unfold szA
  split
  · omega
  · have h1:=szT_le a.ty (r - a.name.size) (by omega)
    split
    · omega
    · have h2:=szV_le a.els (szT a.ty (r - a.name.size)) (by omega)
      split<;>omega
theorem szA_small (a:Arg) (r:Int) (hr:r≤1048576) (h:0≤szA a r):ArgSm a:=by
  unfold szA at h
  split at h
  · omega
  · have h1:=szT_le a.ty (r - a.name.size) (by omega)
    split at h
    · omega
    · have h2:=szV_le a.els (szT a.ty (r - a.name.size)) (by omega)
      split at h
      · omega
      · exact⟨by omega,szT_small _ (r - a.name.size) (by omega) (by omega),szV_small _ (szT a.ty (r - a.name.size)) (by omega) (by omega)⟩
set_option maxHeartbeats 1000000 in
theorem p_szArg (a:Arg) (hv:ArgOk a) (left:Int) (h0:0≤left) (hb:left≤4611686018427387904):PCall Tryz.prog gl 223 [a.d,dI left] (dI (szA a left)):=by
  have h3:=hv.1
  have h4:=hv.2.1
  have h5:=hv.2.2
  have hsz:szA a left=if left - a.name.size<0 then -1 else if szT a.ty (left - a.name.size)<0 then -1 else if szV a.els (szT a.ty (left - a.name.size))<0 then -1 else szV a.els (szT a.ty (left - a.name.size)):=rfl
  obtain⟨nm,ty,has,els⟩:=a
  simp only at h3 h4 h5 hsz
  have l1:=szT_le ty (left - nm.size)
  have hT:=fun h0 hb=>p_szType (gl:=gl) ty h4 (left - nm.size) h0 hb
  have hV:=fun h0 hb=>p_szValue (gl:=gl) els h5 (szT ty (left - nm.size)) h0 hb
  cases ty with
  | mk t l b =>
  cases els with
  | mk k n t2 l2 ns =>
  generalize szA _ left=z at hsz ⊢
  generalize szT (.mk t l b) (left - nm.size)=z1 at hsz l1 hT hV
  generalize szV (.mk k n t2 l2 ns) z1=z2 at hsz hV
  refine PCall.by_ (md:=[]) Tryz.func223 rfl (by kernel_rfl) (n:=25) Tryz.ntmps223 (by simp) (by decide) rfl ?_
  have w0:IntKind.i64.wrap (left - nm.size)=left - nm.size:=wrap64 (by omega) (by omega)
  simp[w0,Arg.cells,Typ.cells,Val.cells]
  refine BrT.dec (fun h=>?_) (fun h=>?_)
  case refine_1=>(rw[if_pos (by omega)] at hsz;simp[h,hsz])
  rw[if_neg (by omega)] at hsz
  simp[h]
  repeat refine⟨DrawT.mk (by kernel_rfl),?_⟩
  refine CallT.p0 (hT (by omega) (by omega)) (by first | rfl | (simp;done)|(simp[w0,h];done)) (by first | rfl | (simp;done)|(simp;rfl)|(simp[w0,h];done)) ?_
  simp
  refine BrT.dec (fun h1=>?_) (fun h1=>?_)
  case refine_1=>(rw[if_pos h1] at hsz;simp[h1,hsz])
  rw[if_neg h1] at hsz
  simp[h1]
  repeat refine⟨DrawT.mk (by kernel_rfl),?_⟩
  refine CallT.p0 (hV (by omega) (by omega)) (by first | rfl | (simp;done)|(simp[w0,h,h1];done)) (by first | rfl | (simp;done)|(simp;rfl)|(simp[w0,h,h1];done)) ?_
  simp
  refine BrT.dec (fun h2=>?_) (fun h2=>?_)
  case refine_1=>(rw[if_pos h2] at hsz;simp[h2,hsz])
  rw[if_neg h2] at hsz
  simp[h2,hsz]
set_option maxHeartbeats 1000000 in
theorem p_toArg (a:Arg) (hv:ArgSm a):PCall Tryz.prog gl 225 [a.d] a.d:=by
  have hT:=p_toType (gl:=gl) a.ty hv.2.1
  have hV:=p_toValue (gl:=gl) a.els hv.2.2
  obtain⟨nm,ty,has,els⟩:=a
  cases ty with
  | mk t l b =>
  cases els with
  | mk k n t2 l2 ns =>
  refine PCall.by_ (md:=[]) Tryz.func225 rfl (by kernel_rfl) (n:=19) Tryz.ntmps225 (by simp) (by decide) rfl ?_
  simp[Arg.cells,Typ.cells,Val.cells]
  repeat refine⟨DrawT.mk (by kernel_rfl),?_⟩
  refine CallT.p0 (hT) (by first | rfl | (simp;done)|(simp[Arg.cells,Typ.cells,Val.cells];done)) (by first | rfl | (simp;done)|(simp;rfl)|(simp[Arg.cells,Typ.cells,Val.cells];done)) ?_
  simp[Typ.cells]
  repeat refine⟨DrawT.mk (by kernel_rfl),?_⟩
  refine CallT.p0 (hV) (by first | rfl | (simp;done)|(simp[Arg.cells,Typ.cells,Val.cells];done)) (by first | rfl | (simp;done)|(simp;rfl)|(simp[Arg.cells,Typ.cells,Val.cells];done)) ?_
  simp[Arg.cells,Typ.cells,Val.cells]
set_option maxHeartbeats 1000000 in
theorem p_eqArg (a:Arg) (hv:ArgOk a):PCall Tryz.prog gl 228 [a.d,a.d] (dB true):=by
  have hT:=p_eqType (gl:=gl) a.ty hv.2.1
  have hV:=p_eqValue (gl:=gl) a.els hv.2.2
  obtain⟨nm,ty,has,els⟩:=a
  cases ty with
  | mk t l b =>
  cases els with
  | mk k n t2 l2 ns =>
  refine PCall.by_ (md:=[]) Tryz.func228 rfl (by kernel_rfl) (n:=27) Tryz.ntmps228 (by simp) (by decide) rfl ?_
  simp[Arg.cells,Typ.cells,Val.cells]
  repeat refine⟨DrawT.mk (by kernel_rfl),?_⟩
  refine CallT.p0 (hT) (by first | rfl | (simp;done)|(simp[Arg.cells,Typ.cells,Val.cells];done)) (by first | rfl | (simp;done)|(simp;rfl)|(simp[Arg.cells,Typ.cells,Val.cells];done)) ?_
  simp
  repeat refine⟨DrawT.mk (by kernel_rfl),?_⟩
  refine CallT.p0 (hV) (by first | rfl | (simp;done)|(simp[Arg.cells,Typ.cells,Val.cells];done)) (by first | rfl | (simp;done)|(simp;rfl)|(simp[Arg.cells,Typ.cells,Val.cells];done)) ?_
  simp
theorem TLe.big {v:Typ} (h:TLe 1048576 v):TLe 4611686018427387904 v:=h.mono (by omega)
theorem arg_ok {a:Arg} (h:ArgSm a):ArgOk a:=⟨by have:=h.1;omega,h.2.1.big,small_wf h.2.2⟩
set_option maxHeartbeats 1000000 in
theorem p_szArgS_of (l:List Arg) (hl:l.length≤4611686018427387904) (ih:∀ i (h:i<l.length) (left:Int),0≤left→left≤4611686018427387904→PCall Tryz.prog gl 223 [l[i].d,dI left] (dI (szA l[i] left))) (hle:∀ x∈l,SzLe szA x) (left:Int) (h0:0≤left) (hb:left≤4611686018427387904) :
    PCall Tryz.prog gl 197 [argsD l,dI left] (dI (szRow szA l left)):=by
  refine PCall.by_ (md:=[]) Tryz.func197 rfl (by kernel_rfl) (n:=27) Tryz.ntmps197 (by simp) (by decide) rfl ?_
  have w0:IntKind.i64.wrap (left - l.length)=left - l.length:=wrap64 (by omega) (by omega)
  simp[w0]
  refine BrT.dec (fun h=>?_) (fun h=>?_)
  · have:szRow szA l left = -1:=by rw[szRow,if_pos (by omega)]
    simp[h,this]
  have hsz:szRow szA l left=szGoR szA l (left - l.length):=by rw[szRow,if_neg (by omega)]
  simp[h]
  refine LoopT.round (fun E S=>∃ (i:Nat) (r:Int),(i≤l.length)∧(0≤r)∧(r≤4611686018427387904)∧E 0=some (.d (argsD l))∧E 1=some (.d (dI r))∧E 5=some (.d (dI i))∧(szGoR szA (l.drop i) r=szRow szA l left)) (upTo 5 l.length) ⟨0,left - l.length,by simp[hsz];omega⟩ ?_
  rintro E S hk ⟨i,r,hi,hr0,hr1,h0,h1,h5,hp⟩
  have hn:S.n=27:=by first | (simpa using hk.n)|(have hh:=hk.n;simp[w0,h] at hh;exact hh)
  have hg:S.gl=gl:=by first | (simpa using hk.gl)|(have hh:=hk.gl;simp[w0,h] at hh;exact hh)
  have hmd:S.md=[]:=by first | (simpa using hk.md)|(have hh:=hk.md;simp[w0,h] at hh;exact hh)
  simp[h0,h5,hn,hg]
  have w:=wrap64 (n:=(i:Int)+1) (by omega) (by omega)
  refine BrT.dec (fun c=>?_) (fun c=>?_)
  · have hi2:i<l.length:=by omega
    have hlen:=args_len l
    have hfit:i*10+10≤l.length*10:=by omega
    have hd:szGoR szA (l.drop i) r=if szA l[i] r<0 then -1 else szGoR szA (l.drop (i+1)) (szA l[i] r):=by
      rw[List.drop_eq_getElem_cons hi2];simp only[szGoR]
    have hle2:=hle l[i] (List.getElem_mem hi2) r (by omega)
    simp[h0,h1,h5,hn,c,hlen,hfit,args_at]
    repeat refine⟨DrawT.mk (by kernel_rfl),?_⟩
    refine CallT.p0 (ih i hi2 r hr0 hr1) (by first | rfl | (simp;done)|(simp[hg];done)) (by first | rfl | (simp;done)|(simp;rfl)|(simp[w0,h,h0,h1,h5,hn,hg,hmd,c];done)) ?_
    simp[hn]
    refine BrT.dec (fun he=>?_) (fun he=>?_)
    · rw[hd,if_pos he] at hp
      simp[hn,he,hp]
    · rw[hd,if_neg he] at hp
      simp[h0,h5,hn,he,w]
      exact⟨⟨i+1,by omega,szA l[i] r,by omega,by omega,rfl,by omega,hp⟩,upTo_lt h5 (by simp) hi2⟩
  · rw[List.drop_eq_nil_of_le (by omega)] at hp
    simp only[szGoR] at hp
    simp[h1,hn,c, ← hp]
abbrev zArg:List SV:=[.d (dS ⟨#[]⟩), .d (dS ⟨#[]⟩), .fl [] 0, .d (dB false), .d (dB false), .d (dI 0), .d (dI 0), .d (dS ⟨#[]⟩), .fl [] 0, .fl [] 0]
abbrev sArg (v:Arg):List SV:=v.cells.map .d
theorem sArg_len (v:Arg):(sArg v).length=10:=by rw[List.length_map,acells_len]
theorem sArg_row (l:List Arg):l.flatMap sArg=(argsCells l).map .d:=by
  rw[args_row]
  induction l with
  | nil=>rfl
  | cons v r ih=>simp[ih]
theorem madeS_zArg (n:Nat):madeS zArg 10 n=(List.replicate n zArg).flatten:=madeS_row zArg n
set_option maxHeartbeats 1000000 in
theorem p_toArgS_of (l:List Arg) (hl:l.length≤1048576) (ih:∀ i (h:i<l.length),PCall Tryz.prog gl 225 [l[i].d] l[i].d):PCall Tryz.prog gl 199 [argsD l] (argsD l):=by
  refine PCall.by_ (md:=[]) Tryz.func199 rfl (by kernel_rfl) (n:=23) Tryz.ntmps199 (by simp) (by decide) rfl ?_
  simp
  refine⟨by omega,?_⟩
  refine LoopT.round (fun E S=>∃ (i:Nat),(i≤l.length)∧E 0=some (.d (argsD l))∧E 3=some (.os 3 0 l.length)∧E 4=some (.d (dI i))∧S.B 3=some (filled sArg zArg l i)) (upTo 4 l.length) ⟨0,by simp[filled_none,madeS_zArg]⟩ ?_
  rintro E S hk ⟨i,hi,h0,h3,h4,hB3⟩
  have hn:S.n=23:=by first | (simpa using hk.n)|(have hh:=hk.n;simp at hh;exact hh)
  have hg:S.gl=gl:=by first | (simpa using hk.gl)|(have hh:=hk.gl;simp at hh;exact hh)
  have hmd:S.md=[]:=by first | (simpa using hk.md)|(have hh:=hk.md;simp at hh;exact hh)
  simp[h0,h4,hn,hg]
  have w:=wrap64 (n:=(i:Int)+1) (by omega) (by omega)
  refine BrT.dec (fun h=>?_) (fun h=>?_)
  · have hi2:i<l.length:=by omega
    have hlen:=args_len l
    have hfit:i*10+10≤l.length*10:=by omega
    have hflen:=filled_len (enc:=sArg) (z:=zArg) sArg_len rfl l hi
    have hnext:=filled_next (enc:=sArg) (z:=zArg) sArg_len rfl l hi2
    simp[h0,h3,h4,hn,h,hlen,hfit,args_at]
    repeat refine⟨DrawT.mk (by kernel_rfl),?_⟩
    refine CallT.p0 (ih i hi2) (by first | rfl | (simp;done)|(simp[hg];done)) (by first | rfl | (simp;done)|(simp;rfl)|(simp[h0,h3,h4,hB3,hn,hg,hmd,h];done)) ?_
    simp[h0,h3,h4,hB3,hn,h,  w,hflen,hfit,acells_len]
    refine⟨⟨i+1,by omega,by omega,?_⟩,upTo_lt h4 (by simp) hi2⟩
    rw[← hnext]
    simp
  · have hi3:i=l.length:=by omega
    subst hi3
    rw[filled_all,sArg_row] at hB3
    simp[h3,hB3,hn,h]
set_option maxHeartbeats 1000000 in
theorem p_eqArgS_of (l:List Arg) (hl:l.length≤4611686018427387904) (ih:∀ i (h:i<l.length),PCall Tryz.prog gl 228 [l[i].d,l[i].d] (dB true)):PCall Tryz.prog gl 203 [argsD l,argsD l] (dB true):=by
  refine PCall.by_ (md:=[]) Tryz.func203 rfl (by kernel_rfl) (n:=27) Tryz.ntmps203 (by simp) (by decide) rfl ?_
  simp
  refine LoopT.round (fun E S=>∃ (i:Nat),(i≤l.length)∧E 0=some (.d (argsD l))∧E 1=some (.d (argsD l))∧E 5=some (.d (dI i))) (upTo 5 l.length) ⟨0,by simp⟩ ?_
  rintro E S hk ⟨i,hi,h0,h1,h5⟩
  have hn:S.n=27:=by first | (simpa using hk.n)|(have hh:=hk.n;simp at hh;exact hh)
  have hg:S.gl=gl:=by first | (simpa using hk.gl)|(have hh:=hk.gl;simp at hh;exact hh)
  have hmd:S.md=[]:=by first | (simpa using hk.md)|(have hh:=hk.md;simp at hh;exact hh)
  simp[h0,h5,hn,hg]
  have w:=wrap64 (n:=(i:Int)+1) (by omega) (by omega)
  refine BrT.dec (fun h=>?_) (fun h=>?_)
  · have hi2:i<l.length:=by omega
    have hlen:=args_len l
    have hfit:i*10+10≤l.length*10:=by omega
    simp[h0,h1,h5,hn,h,hlen,hfit,args_at]
    repeat refine⟨DrawT.mk (by kernel_rfl),?_⟩
    refine CallT.p0 (ih i hi2) (by first | rfl | (simp;done)|(simp[hg];done)) (by first | rfl | (simp;done)|(simp;rfl)|(simp[h0,h1,h5,hn,hg,hmd,h];done)) ?_
    simp[h0,h1,h5,hn,w]
    exact⟨⟨i+1,by omega,by omega⟩,upTo_lt h5 (by simp) hi2⟩
  · simp[hn,h]
structure Fld where
  name:ByteArray
  args:List Arg
  ty:Typ
def Fld.cells (a:Fld):List D:=dS a.name::argsD a.args::a.ty.cells
abbrev Fld.d (a:Fld):D:=.agg a.cells
def fldsCells (l:List Fld):List D:=l.flatMap Fld.cells
abbrev fldsD (l:List Fld):D:=.ps (fldsCells l) l.length
theorem fcells_len (a:Fld):a.cells.length=5:=by simp[Fld.cells,tcells_len]
theorem flds_row (l:List Fld):fldsCells l=l.flatMap Fld.cells:=rfl
theorem flds_len (l:List Fld):(fldsCells l).length=l.length*5:=row_len fcells_len l
theorem flds_at (l:List Fld) {i:Nat} (hi:i<l.length):((fldsCells l).drop (i*5)).take 5=(l[i]).cells:=row_at fcells_len l i hi
def FldOk (a:Fld):Prop:=a.name.size≤4611686018427387904∧(a.args.length≤4611686018427387904∧∀ x∈a.args,ArgOk x)∧TLe 4611686018427387904 a.ty
def FldSm (a:Fld):Prop:=a.name.size≤1048576∧(a.args.length≤1048576∧∀ x∈a.args,ArgSm x)∧TLe 1048576 a.ty
def szF (a:Fld) (left:Int):Int:=if left - a.name.size<0 then -1 else if szRow szA a.args (left - a.name.size)<0 then -1 else if szT a.ty (szRow szA a.args (left - a.name.size))<0 then -1 else szT a.ty (szRow szA a.args (left - a.name.size))
theorem szF_le (a:Fld):SzLe szF a:=fun r h=>by
  unfold szF
  split
  · omega
  · have h1:=szRow_le (l:=a.args) (fun x _=>szA_le x) (r - a.name.size) (by omega)
    split
    · omega
    · have h2:=szT_le a.ty (szRow szA a.args (r - a.name.size)) (by omega)
      split<;>omega
theorem szF_small (a:Fld) (r:Int) (hr:r≤1048576) (h:0≤szF a r):FldSm a:=by
  unfold szF at h
  split at h
  · omega
  · have h1:=szRow_le (l:=a.args) (fun x _=>szA_le x) (r - a.name.size) (by omega)
    split at h
    · omega
    · have h2:=szT_le a.ty (szRow szA a.args (r - a.name.size)) (by omega)
      split at h
      · omega
      · obtain⟨b1,b2⟩:=szRow_small (l:=a.args) (fun x _=>szA_le x) (r:=r - a.name.size) (by omega) (by omega)
        refine⟨by omega,⟨by omega,fun x hx=>?_⟩,szT_small _ (szRow szA a.args (r - a.name.size)) (by omega) (by omega)⟩
        obtain⟨q,q1,q2,q3⟩:=b2 x hx
        exact szA_small x q (by omega) q3
set_option maxHeartbeats 1000000 in
theorem p_szField (a:Fld) (hv:FldOk a) (left:Int) (h0:0≤left) (hb:left≤4611686018427387904):PCall Tryz.prog gl 171 [a.d,dI left] (dI (szF a left)):=by
  have h3:=hv.1
  have h4:=hv.2.1
  have h5:=hv.2.2
  have hsz:szF a left=if left - a.name.size<0 then -1 else if szRow szA a.args (left - a.name.size)<0 then -1 else if szT a.ty (szRow szA a.args (left - a.name.size))<0 then -1 else szT a.ty (szRow szA a.args (left - a.name.size)):=rfl
  obtain⟨nm,args,ty⟩:=a
  simp only at h3 h4 h5 hsz
  have l1:=szRow_le (l:=args) (fun x _=>szA_le x) (left - nm.size)
  have hA:=fun h0 hb=>p_szArgS_of (gl:=gl) args h4.1 (fun i hi r a b=>p_szArg args[i] (h4.2 _ (List.getElem_mem hi)) r a b) (fun x _=>szA_le x) (left - nm.size) h0 hb
  have hT:=fun h0 hb=>p_szType (gl:=gl) ty h5 (szRow szA args (left - nm.size)) h0 hb
  cases ty with
  | mk t l b =>
  generalize szF _ left=z at hsz ⊢
  generalize szRow szA args (left - nm.size)=z1 at hsz l1 hA hT
  generalize szT (.mk t l b) z1=z2 at hsz hT
  refine PCall.by_ (md:=[]) Tryz.func171 rfl (by kernel_rfl) (n:=25) Tryz.ntmps171 (by simp) (by decide) rfl ?_
  have w0:IntKind.i64.wrap (left - nm.size)=left - nm.size:=wrap64 (by omega) (by omega)
  simp[w0,Fld.cells,Typ.cells]
  refine BrT.dec (fun h=>?_) (fun h=>?_)
  case refine_1=>(rw[if_pos (by omega)] at hsz;simp[h,hsz])
  rw[if_neg (by omega)] at hsz
  simp[h]
  repeat refine⟨DrawT.mk (by kernel_rfl),?_⟩
  refine CallT.p0 (hA (by omega) (by omega)) (by first | rfl | (simp;done)|(simp[w0,h];done)) (by first | rfl | (simp;done)|(simp;rfl)|(simp[w0,h];done)) ?_
  simp
  refine BrT.dec (fun h1=>?_) (fun h1=>?_)
  case refine_1=>(rw[if_pos h1] at hsz;simp[h1,hsz])
  rw[if_neg h1] at hsz
  simp[h1]
  repeat refine⟨DrawT.mk (by kernel_rfl),?_⟩
  refine CallT.p0 (hT (by omega) (by omega)) (by first | rfl | (simp;done)|(simp[w0,h,h1];done)) (by first | rfl | (simp;done)|(simp;rfl)|(simp[w0,h,h1];done)) ?_
  simp
  refine BrT.dec (fun h2=>?_) (fun h2=>?_)
  case refine_1=>(rw[if_pos h2] at hsz;simp[h2,hsz])
  rw[if_neg h2] at hsz
  simp[h2,hsz]
set_option maxHeartbeats 1000000 in
theorem p_toField (a:Fld) (hv:FldSm a):PCall Tryz.prog gl 172 [a.d] a.d:=by
  have hA:=p_toArgS_of (gl:=gl) a.args hv.2.1.1 (fun i hi=>p_toArg a.args[i] (hv.2.1.2 _ (List.getElem_mem hi)))
  have hT:=p_toType (gl:=gl) a.ty hv.2.2
  obtain⟨nm,args,ty⟩:=a
  cases ty with
  | mk t l b =>
  refine PCall.by_ (md:=[]) Tryz.func172 rfl (by kernel_rfl) (n:=16) Tryz.ntmps172 (by simp) (by decide) rfl ?_
  simp[Fld.cells,Typ.cells]
  repeat refine⟨DrawT.mk (by kernel_rfl),?_⟩
  refine CallT.p0 (hA) (by first | rfl | (simp;done)|(simp[Fld.cells,Typ.cells];done)) (by first | rfl | (simp;done)|(simp;rfl)|(simp[Fld.cells,Typ.cells];done)) ?_
  simp
  repeat refine⟨DrawT.mk (by kernel_rfl),?_⟩
  refine CallT.p0 (hT) (by first | rfl | (simp;done)|(simp[Fld.cells,Typ.cells];done)) (by first | rfl | (simp;done)|(simp;rfl)|(simp[Fld.cells,Typ.cells];done)) ?_
  simp[Fld.cells,Typ.cells]
set_option maxHeartbeats 1000000 in
theorem p_eqField (a:Fld) (hv:FldOk a):PCall Tryz.prog gl 175 [a.d,a.d] (dB true):=by
  have hA:=p_eqArgS_of (gl:=gl) a.args hv.2.1.1 (fun i hi=>p_eqArg a.args[i] (hv.2.1.2 _ (List.getElem_mem hi)))
  have hT:=p_eqType (gl:=gl) a.ty hv.2.2
  obtain⟨nm,args,ty⟩:=a
  cases ty with
  | mk t l b =>
  refine PCall.by_ (md:=[]) Tryz.func175 rfl (by kernel_rfl) (n:=22) Tryz.ntmps175 (by simp) (by decide) rfl ?_
  simp[Fld.cells,Typ.cells]
  repeat refine⟨DrawT.mk (by kernel_rfl),?_⟩
  refine CallT.p0 (hA) (by first | rfl | (simp;done)|(simp[Fld.cells,Typ.cells];done)) (by first | rfl | (simp;done)|(simp;rfl)|(simp[Fld.cells,Typ.cells];done)) ?_
  simp
  repeat refine⟨DrawT.mk (by kernel_rfl),?_⟩
  refine CallT.p0 (hT) (by first | rfl | (simp;done)|(simp[Fld.cells,Typ.cells];done)) (by first | rfl | (simp;done)|(simp;rfl)|(simp[Fld.cells,Typ.cells];done)) ?_
  simp
set_option maxHeartbeats 1000000 in
theorem p_szFieldS_of (l:List Fld) (hl:l.length≤4611686018427387904) (ih:∀ i (h:i<l.length) (left:Int),0≤left→left≤4611686018427387904→PCall Tryz.prog gl 171 [l[i].d,dI left] (dI (szF l[i] left))) (hle:∀ x∈l,SzLe szF x) (left:Int) (h0:0≤left) (hb:left≤4611686018427387904) :
    PCall Tryz.prog gl 127 [fldsD l,dI left] (dI (szRow szF l left)):=by
  refine PCall.by_ (md:=[]) Tryz.func127 rfl (by kernel_rfl) (n:=27) Tryz.ntmps127 (by simp) (by decide) rfl ?_
  have w0:IntKind.i64.wrap (left - l.length)=left - l.length:=wrap64 (by omega) (by omega)
  simp[w0]
  refine BrT.dec (fun h=>?_) (fun h=>?_)
  · have:szRow szF l left = -1:=by rw[szRow,if_pos (by omega)]
    simp[h,this]
  have hsz:szRow szF l left=szGoR szF l (left - l.length):=by rw[szRow,if_neg (by omega)]
  simp[h]
  refine LoopT.round (fun E S=>∃ (i:Nat) (r:Int),(i≤l.length)∧(0≤r)∧(r≤4611686018427387904)∧E 0=some (.d (fldsD l))∧E 1=some (.d (dI r))∧E 5=some (.d (dI i))∧(szGoR szF (l.drop i) r=szRow szF l left)) (upTo 5 l.length) ⟨0,left - l.length,by simp[hsz];omega⟩ ?_
  rintro E S hk ⟨i,r,hi,hr0,hr1,h0,h1,h5,hp⟩
  have hn:S.n=27:=by first | (simpa using hk.n)|(have hh:=hk.n;simp[w0,h] at hh;exact hh)
  have hg:S.gl=gl:=by first | (simpa using hk.gl)|(have hh:=hk.gl;simp[w0,h] at hh;exact hh)
  have hmd:S.md=[]:=by first | (simpa using hk.md)|(have hh:=hk.md;simp[w0,h] at hh;exact hh)
  simp[h0,h5,hn,hg]
  have w:=wrap64 (n:=(i:Int)+1) (by omega) (by omega)
  refine BrT.dec (fun c=>?_) (fun c=>?_)
  · have hi2:i<l.length:=by omega
    have hlen:=flds_len l
    have hfit:i*5+5≤l.length*5:=by omega
    have hd:szGoR szF (l.drop i) r=if szF l[i] r<0 then -1 else szGoR szF (l.drop (i+1)) (szF l[i] r):=by
      rw[List.drop_eq_getElem_cons hi2];simp only[szGoR]
    have hle2:=hle l[i] (List.getElem_mem hi2) r (by omega)
    simp[h0,h1,h5,hn,c,hlen,hfit,flds_at]
    repeat refine⟨DrawT.mk (by kernel_rfl),?_⟩
    refine CallT.p0 (ih i hi2 r hr0 hr1) (by first | rfl | (simp;done)|(simp[hg];done)) (by first | rfl | (simp;done)|(simp;rfl)|(simp[w0,h,h0,h1,h5,hn,hg,hmd,c];done)) ?_
    simp[hn]
    refine BrT.dec (fun he=>?_) (fun he=>?_)
    · rw[hd,if_pos he] at hp
      simp[hn,he,hp]
    · rw[hd,if_neg he] at hp
      simp[h0,h5,hn,he,w]
      exact⟨⟨i+1,by omega,szF l[i] r,by omega,by omega,rfl,by omega,hp⟩,upTo_lt h5 (by simp) hi2⟩
  · rw[List.drop_eq_nil_of_le (by omega)] at hp
    simp only[szGoR] at hp
    simp[h1,hn,c, ← hp]
abbrev zField:List SV:=[.d (dS ⟨#[]⟩), .fl [] 0, .d (dS ⟨#[]⟩), .fl [] 0, .d (dB false)]
abbrev sField (v:Fld):List SV:=v.cells.map .d
theorem sField_len (v:Fld):(sField v).length=5:=by rw[List.length_map,fcells_len]
theorem sField_row (l:List Fld):l.flatMap sField=(fldsCells l).map .d:=by
  rw[flds_row]
  induction l with
  | nil=>rfl
  | cons v r ih=>simp[ih]
theorem madeS_zField (n:Nat):madeS zField 5 n=(List.replicate n zField).flatten:=madeS_row zField n
set_option maxHeartbeats 1000000 in
theorem p_toFieldS_of (l:List Fld) (hl:l.length≤1048576) (ih:∀ i (h:i<l.length),PCall Tryz.prog gl 172 [l[i].d] l[i].d):PCall Tryz.prog gl 129 [fldsD l] (fldsD l):=by
  refine PCall.by_ (md:=[]) Tryz.func129 rfl (by kernel_rfl) (n:=23) Tryz.ntmps129 (by simp) (by decide) rfl ?_
  simp
  refine⟨by omega,?_⟩
  refine LoopT.round (fun E S=>∃ (i:Nat),(i≤l.length)∧E 0=some (.d (fldsD l))∧E 3=some (.os 3 0 l.length)∧E 4=some (.d (dI i))∧S.B 3=some (filled sField zField l i)) (upTo 4 l.length) ⟨0,by simp[filled_none,madeS_zField]⟩ ?_
  rintro E S hk ⟨i,hi,h0,h3,h4,hB3⟩
  have hn:S.n=23:=by first | (simpa using hk.n)|(have hh:=hk.n;simp at hh;exact hh)
  have hg:S.gl=gl:=by first | (simpa using hk.gl)|(have hh:=hk.gl;simp at hh;exact hh)
  have hmd:S.md=[]:=by first | (simpa using hk.md)|(have hh:=hk.md;simp at hh;exact hh)
  simp[h0,h4,hn,hg]
  have w:=wrap64 (n:=(i:Int)+1) (by omega) (by omega)
  refine BrT.dec (fun h=>?_) (fun h=>?_)
  · have hi2:i<l.length:=by omega
    have hlen:=flds_len l
    have hfit:i*5+5≤l.length*5:=by omega
    have hflen:=filled_len (enc:=sField) (z:=zField) sField_len rfl l hi
    have hnext:=filled_next (enc:=sField) (z:=zField) sField_len rfl l hi2
    simp[h0,h3,h4,hn,h,hlen,hfit,flds_at]
    repeat refine⟨DrawT.mk (by kernel_rfl),?_⟩
    refine CallT.p0 (ih i hi2) (by first | rfl | (simp;done)|(simp[hg];done)) (by first | rfl | (simp;done)|(simp;rfl)|(simp[h0,h3,h4,hB3,hn,hg,hmd,h];done)) ?_
    simp[h0,h3,h4,hB3,hn,h,  w,hflen,hfit,fcells_len]
    refine⟨⟨i+1,by omega,by omega,?_⟩,upTo_lt h4 (by simp) hi2⟩
    rw[← hnext]
    simp
  · have hi3:i=l.length:=by omega
    subst hi3
    rw[filled_all,sField_row] at hB3
    simp[h3,hB3,hn,h]
set_option maxHeartbeats 1000000 in
theorem p_eqFieldS_of (l:List Fld) (hl:l.length≤4611686018427387904) (ih:∀ i (h:i<l.length),PCall Tryz.prog gl 175 [l[i].d,l[i].d] (dB true)):PCall Tryz.prog gl 136 [fldsD l,fldsD l] (dB true):=by
  refine PCall.by_ (md:=[]) Tryz.func136 rfl (by kernel_rfl) (n:=27) Tryz.ntmps136 (by simp) (by decide) rfl ?_
  simp
  refine LoopT.round (fun E S=>∃ (i:Nat),(i≤l.length)∧E 0=some (.d (fldsD l))∧E 1=some (.d (fldsD l))∧E 5=some (.d (dI i))) (upTo 5 l.length) ⟨0,by simp⟩ ?_
  rintro E S hk ⟨i,hi,h0,h1,h5⟩
  have hn:S.n=27:=by first | (simpa using hk.n)|(have hh:=hk.n;simp at hh;exact hh)
  have hg:S.gl=gl:=by first | (simpa using hk.gl)|(have hh:=hk.gl;simp at hh;exact hh)
  have hmd:S.md=[]:=by first | (simpa using hk.md)|(have hh:=hk.md;simp at hh;exact hh)
  simp[h0,h5,hn,hg]
  have w:=wrap64 (n:=(i:Int)+1) (by omega) (by omega)
  refine BrT.dec (fun h=>?_) (fun h=>?_)
  · have hi2:i<l.length:=by omega
    have hlen:=flds_len l
    have hfit:i*5+5≤l.length*5:=by omega
    simp[h0,h1,h5,hn,h,hlen,hfit,flds_at]
    repeat refine⟨DrawT.mk (by kernel_rfl),?_⟩
    refine CallT.p0 (ih i hi2) (by first | rfl | (simp;done)|(simp[hg];done)) (by first | rfl | (simp;done)|(simp;rfl)|(simp[h0,h1,h5,hn,hg,hmd,h];done)) ?_
    simp[h0,h1,h5,hn,w]
    exact⟨⟨i+1,by omega,by omega⟩,upTo_lt h5 (by simp) hi2⟩
  · simp[hn,h]
structure Def where
  name:ByteArray
  kind:Int
  flds:List Fld
  words:List ByteArray
def Def.cells (a:Def):List D:=[dS a.name,dI a.kind,fldsD a.flds,namesD a.words]
abbrev Def.d (a:Def):D:=.agg a.cells
def defsCells (l:List Def):List D:=l.flatMap Def.cells
abbrev defsD (l:List Def):D:=.ps (defsCells l) l.length
theorem dcells_len (a:Def):a.cells.length=4:=rfl
@[simp] theorem take_dcellsS (v:Def):(v.cells.map SV.d).take 4=v.cells.map SV.d:=List.take_of_length_le (by rw[List.length_map,dcells_len];exact Nat.le_refl _)
theorem defs_row (l:List Def):defsCells l=l.flatMap Def.cells:=rfl
theorem defs_len (l:List Def):(defsCells l).length=l.length*4:=row_len dcells_len l
theorem defs_at (l:List Def) {i:Nat} (hi:i<l.length):((defsCells l).drop (i*4)).take 4=(l[i]).cells:=row_at dcells_len l i hi
def DefOk (a:Def):Prop:=a.name.size≤4611686018427387904∧(a.flds.length≤4611686018427387904∧∀ x∈a.flds,FldOk x)∧NamesOk a.words
def DefSm (a:Def):Prop:=a.name.size≤1048576∧(a.flds.length≤1048576∧∀ x∈a.flds,FldSm x)∧(a.words.length≤1048576∧∀ s∈a.words,s.size≤1048576)
def szD (a:Def) (left:Int):Int:=if left - a.name.size<0 then -1 else if szRow szF a.flds (left - a.name.size)<0 then -1 else if szNames a.words (szRow szF a.flds (left - a.name.size))<0 then -1 else szNames a.words (szRow szF a.flds (left - a.name.size))
theorem szD_le (a:Def):SzLe szD a:=fun r h=>by
  unfold szD
  split
  · omega
  · have h1:=szRow_le (l:=a.flds) (fun x _=>szF_le x) (r - a.name.size) (by omega)
    split
    · omega
    · have h2:=szNames_le a.words (szRow szF a.flds (r - a.name.size)) (by omega)
      split<;>omega
theorem szD_small (a:Def) (r:Int) (hr:r≤1048576) (h:0≤szD a r):DefSm a:=by
  unfold szD at h
  split at h
  · omega
  · have h1:=szRow_le (l:=a.flds) (fun x _=>szF_le x) (r - a.name.size) (by omega)
    split at h
    · omega
    · have h2:=szNames_le a.words (szRow szF a.flds (r - a.name.size)) (by omega)
      split at h
      · omega
      · obtain⟨b1,b2⟩:=szRow_small (l:=a.flds) (fun x _=>szF_le x) (r:=r - a.name.size) (by omega) (by omega)
        refine⟨by omega,⟨by omega,fun x hx=>?_⟩,szNames_small (r:=szRow szF a.flds (r - a.name.size)) (by omega) (by omega)⟩
        obtain⟨q,q1,q2,q3⟩:=b2 x hx
        exact szF_small x q (by omega) q3
set_option maxHeartbeats 1000000 in
theorem p_szDef (a:Def) (hv:DefOk a) (left:Int) (h0:0≤left) (hb:left≤4611686018427387904):PCall Tryz.prog gl 70 [a.d,dI left] (dI (szD a left)):=by
  have h3:=hv.1
  have h4:=hv.2.1
  have h5:=hv.2.2
  have hsz:szD a left=if left - a.name.size<0 then -1 else if szRow szF a.flds (left - a.name.size)<0 then -1 else if szNames a.words (szRow szF a.flds (left - a.name.size))<0 then -1 else szNames a.words (szRow szF a.flds (left - a.name.size)):=rfl
  obtain⟨nm,kind,flds,words⟩:=a
  simp only at h3 h4 h5 hsz
  have l1:=szRow_le (l:=flds) (fun x _=>szF_le x) (left - nm.size)
  have hA:=fun h0 hb=>p_szFieldS_of (gl:=gl) flds h4.1 (fun i hi r a b=>p_szField flds[i] (h4.2 _ (List.getElem_mem hi)) r a b) (fun x _=>szF_le x) (left - nm.size) h0 hb
  have hT:=fun h0 hb=>p_szStringS (gl:=gl) words (szRow szF flds (left - nm.size)) h5 h0 hb
  generalize szD _ left=z at hsz ⊢
  generalize szRow szF flds (left - nm.size)=z1 at hsz l1 hA hT
  generalize szNames words z1=z2 at hsz hT
  refine PCall.by_ (md:=[]) Tryz.func70 rfl (by kernel_rfl) (n:=25) Tryz.ntmps70 (by simp) (by decide) rfl ?_
  have w0:IntKind.i64.wrap (left - nm.size)=left - nm.size:=wrap64 (by omega) (by omega)
  simp[w0,Def.cells]
  refine BrT.dec (fun h=>?_) (fun h=>?_)
  case refine_1=>(rw[if_pos (by omega)] at hsz;simp[h,hsz])
  rw[if_neg (by omega)] at hsz
  simp[h]
  repeat refine⟨DrawT.mk (by kernel_rfl),?_⟩
  refine CallT.p0 (hA (by omega) (by omega)) (by first | rfl | (simp;done)|(simp[w0,h];done)) (by first | rfl | (simp;done)|(simp;rfl)|(simp[w0,h];done)) ?_
  simp
  refine BrT.dec (fun h1=>?_) (fun h1=>?_)
  case refine_1=>(rw[if_pos h1] at hsz;simp[h1,hsz])
  rw[if_neg h1] at hsz
  simp[h1]
  repeat refine⟨DrawT.mk (by kernel_rfl),?_⟩
  refine CallT.p0 (hT (by omega) (by omega)) (by first | rfl | (simp;done)|(simp[w0,h,h1];done)) (by first | rfl | (simp;done)|(simp;rfl)|(simp[w0,h,h1];done)) ?_
  simp
  refine BrT.dec (fun h2=>?_) (fun h2=>?_)
  case refine_1=>(rw[if_pos h2] at hsz;simp[h2,hsz])
  rw[if_neg h2] at hsz
  simp[h2,hsz]
set_option maxHeartbeats 1000000 in
theorem p_toDef (a:Def) (hv:DefSm a):PCall Tryz.prog gl 71 [a.d] a.d:=by
  have hA:=p_toFieldS_of (gl:=gl) a.flds hv.2.1.1 (fun i hi=>p_toField a.flds[i] (hv.2.1.2 _ (List.getElem_mem hi)))
  have hT:=p_toStringS (gl:=gl) a.words hv.2.2.1
  obtain⟨nm,kind,flds,words⟩:=a
  refine PCall.by_ (md:=[]) Tryz.func71 rfl (by kernel_rfl) (n:=19) Tryz.ntmps71 (by simp) (by decide) rfl ?_
  simp[Def.cells]
  repeat refine⟨DrawT.mk (by kernel_rfl),?_⟩
  refine CallT.p0 (hA) (by first | rfl | (simp;done)|(simp[Def.cells];done)) (by first | rfl | (simp;done)|(simp;rfl)|(simp[Def.cells];done)) ?_
  simp
  repeat refine⟨DrawT.mk (by kernel_rfl),?_⟩
  refine CallT.p0 (hT) (by first | rfl | (simp;done)|(simp[Def.cells];done)) (by first | rfl | (simp;done)|(simp;rfl)|(simp[Def.cells];done)) ?_
  simp[Def.cells]
set_option maxHeartbeats 1000000 in
theorem p_eqDef (a:Def) (hv:DefOk a):PCall Tryz.prog gl 73 [a.d,a.d] (dB true):=by
  have hA:=p_eqFieldS_of (gl:=gl) a.flds hv.2.1.1 (fun i hi=>p_eqField a.flds[i] (hv.2.1.2 _ (List.getElem_mem hi)))
  have hT:=p_eqStringS (gl:=gl) a.words (by have:=hv.2.2.1;omega)
  obtain⟨nm,kind,flds,words⟩:=a
  refine PCall.by_ (md:=[]) Tryz.func73 rfl (by kernel_rfl) (n:=27) Tryz.ntmps73 (by simp) (by decide) rfl ?_
  simp[Def.cells]
  repeat refine⟨DrawT.mk (by kernel_rfl),?_⟩
  refine CallT.p0 (hA) (by first | rfl | (simp;done)|(simp[Def.cells];done)) (by first | rfl | (simp;done)|(simp;rfl)|(simp[Def.cells];done)) ?_
  simp
  repeat refine⟨DrawT.mk (by kernel_rfl),?_⟩
  refine CallT.p0 (hT) (by first | rfl | (simp;done)|(simp[Def.cells];done)) (by first | rfl | (simp;done)|(simp;rfl)|(simp[Def.cells];done)) ?_
  simp
set_option maxHeartbeats 1000000 in
theorem p_szDefS_of (l:List Def) (hl:l.length≤4611686018427387904) (ih:∀ i (h:i<l.length) (left:Int),0≤left→left≤4611686018427387904→PCall Tryz.prog gl 70 [l[i].d,dI left] (dI (szD l[i] left))) (hle:∀ x∈l,SzLe szD x) (left:Int) (h0:0≤left) (hb:left≤4611686018427387904) :
    PCall Tryz.prog gl 21 [defsD l,dI left] (dI (szRow szD l left)):=by
  refine PCall.by_ (md:=[]) Tryz.func21 rfl (by kernel_rfl) (n:=27) Tryz.ntmps21 (by simp) (by decide) rfl ?_
  have w0:IntKind.i64.wrap (left - l.length)=left - l.length:=wrap64 (by omega) (by omega)
  simp[w0]
  refine BrT.dec (fun h=>?_) (fun h=>?_)
  · have:szRow szD l left = -1:=by rw[szRow,if_pos (by omega)]
    simp[h,this]
  have hsz:szRow szD l left=szGoR szD l (left - l.length):=by rw[szRow,if_neg (by omega)]
  simp[h]
  refine LoopT.round (fun E S=>∃ (i:Nat) (r:Int),(i≤l.length)∧(0≤r)∧(r≤4611686018427387904)∧E 0=some (.d (defsD l))∧E 1=some (.d (dI r))∧E 5=some (.d (dI i))∧(szGoR szD (l.drop i) r=szRow szD l left)) (upTo 5 l.length) ⟨0,left - l.length,by simp[hsz];omega⟩ ?_
  rintro E S hk ⟨i,r,hi,hr0,hr1,h0,h1,h5,hp⟩
  have hn:S.n=27:=by first | (simpa using hk.n)|(have hh:=hk.n;simp[w0,h] at hh;exact hh)
  have hg:S.gl=gl:=by first | (simpa using hk.gl)|(have hh:=hk.gl;simp[w0,h] at hh;exact hh)
  have hmd:S.md=[]:=by first | (simpa using hk.md)|(have hh:=hk.md;simp[w0,h] at hh;exact hh)
  simp[h0,h5,hn,hg]
  have w:=wrap64 (n:=(i:Int)+1) (by omega) (by omega)
  refine BrT.dec (fun c=>?_) (fun c=>?_)
  · have hi2:i<l.length:=by omega
    have hlen:=defs_len l
    have hfit:i*4+4≤l.length*4:=by omega
    have hd:szGoR szD (l.drop i) r=if szD l[i] r<0 then -1 else szGoR szD (l.drop (i+1)) (szD l[i] r):=by
      rw[List.drop_eq_getElem_cons hi2];simp only[szGoR]
    have hle2:=hle l[i] (List.getElem_mem hi2) r (by omega)
    simp[h0,h1,h5,hn,c,hlen,hfit,defs_at]
    repeat refine⟨DrawT.mk (by kernel_rfl),?_⟩
    refine CallT.p0 (ih i hi2 r hr0 hr1) (by first | rfl | (simp;done)|(simp[hg];done)) (by first | rfl | (simp;done)|(simp;rfl)|(simp[w0,h,h0,h1,h5,hn,hg,hmd,c];done)) ?_
    simp[hn]
    refine BrT.dec (fun he=>?_) (fun he=>?_)
    · rw[hd,if_pos he] at hp
      simp[hn,he,hp]
    · rw[hd,if_neg he] at hp
      simp[h0,h5,hn,he,w]
      exact⟨⟨i+1,by omega,szD l[i] r,by omega,by omega,rfl,by omega,hp⟩,upTo_lt h5 (by simp) hi2⟩
  · rw[List.drop_eq_nil_of_le (by omega)] at hp
    simp only[szGoR] at hp
    simp[h1,hn,c, ← hp]
abbrev zDef:List SV:=[.d (dS ⟨#[]⟩), .d (dI 0), .fl [] 0, .fl [] 0]
abbrev sDef (v:Def):List SV:=v.cells.map .d
theorem sDef_len (v:Def):(sDef v).length=4:=by rw[List.length_map,dcells_len]
theorem sDef_row (l:List Def):l.flatMap sDef=(defsCells l).map .d:=by
  rw[defs_row]
  induction l with
  | nil=>rfl
  | cons v r ih=>simp[ih]
theorem madeS_zDef (n:Nat):madeS zDef 4 n=(List.replicate n zDef).flatten:=madeS_row zDef n
set_option maxHeartbeats 1000000 in
theorem p_toDefS_of (l:List Def) (hl:l.length≤1048576) (ih:∀ i (h:i<l.length),PCall Tryz.prog gl 71 [l[i].d] l[i].d):PCall Tryz.prog gl 23 [defsD l] (defsD l):=by
  refine PCall.by_ (md:=[]) Tryz.func23 rfl (by kernel_rfl) (n:=23) Tryz.ntmps23 (by simp) (by decide) rfl ?_
  simp
  refine⟨by omega,?_⟩
  refine LoopT.round (fun E S=>∃ (i:Nat),(i≤l.length)∧E 0=some (.d (defsD l))∧E 3=some (.os 3 0 l.length)∧E 4=some (.d (dI i))∧S.B 3=some (filled sDef zDef l i)) (upTo 4 l.length) ⟨0,by simp[filled_none,madeS_zDef]⟩ ?_
  rintro E S hk ⟨i,hi,h0,h3,h4,hB3⟩
  have hn:S.n=23:=by first | (simpa using hk.n)|(have hh:=hk.n;simp at hh;exact hh)
  have hg:S.gl=gl:=by first | (simpa using hk.gl)|(have hh:=hk.gl;simp at hh;exact hh)
  have hmd:S.md=[]:=by first | (simpa using hk.md)|(have hh:=hk.md;simp at hh;exact hh)
  simp[h0,h4,hn,hg]
  have w:=wrap64 (n:=(i:Int)+1) (by omega) (by omega)
  refine BrT.dec (fun h=>?_) (fun h=>?_)
  · have hi2:i<l.length:=by omega
    have hlen:=defs_len l
    have hfit:i*4+4≤l.length*4:=by omega
    have hflen:=filled_len (enc:=sDef) (z:=zDef) sDef_len rfl l hi
    have hnext:=filled_next (enc:=sDef) (z:=zDef) sDef_len rfl l hi2
    simp[h0,h3,h4,hn,h,hlen,hfit,defs_at]
    repeat refine⟨DrawT.mk (by kernel_rfl),?_⟩
    refine CallT.p0 (ih i hi2) (by first | rfl | (simp;done)|(simp[hg];done)) (by first | rfl | (simp;done)|(simp;rfl)|(simp[h0,h3,h4,hB3,hn,hg,hmd,h];done)) ?_
    simp[h0,h3,h4,hB3,hn,h,  w,hflen,hfit,dcells_len]
    refine⟨⟨i+1,by omega,by omega,?_⟩,upTo_lt h4 (by simp) hi2⟩
    rw[← hnext]
    simp
  · have hi3:i=l.length:=by omega
    subst hi3
    rw[filled_all,sDef_row] at hB3
    simp[h3,hB3,hn,h]
set_option maxHeartbeats 1000000 in
theorem p_eqDefS_of (l:List Def) (hl:l.length≤4611686018427387904) (ih:∀ i (h:i<l.length),PCall Tryz.prog gl 73 [l[i].d,l[i].d] (dB true)):PCall Tryz.prog gl 25 [defsD l,defsD l] (dB true):=by
  refine PCall.by_ (md:=[]) Tryz.func25 rfl (by kernel_rfl) (n:=27) Tryz.ntmps25 (by simp) (by decide) rfl ?_
  simp
  refine LoopT.round (fun E S=>∃ (i:Nat),(i≤l.length)∧E 0=some (.d (defsD l))∧E 1=some (.d (defsD l))∧E 5=some (.d (dI i))) (upTo 5 l.length) ⟨0,by simp⟩ ?_
  rintro E S hk ⟨i,hi,h0,h1,h5⟩
  have hn:S.n=27:=by first | (simpa using hk.n)|(have hh:=hk.n;simp at hh;exact hh)
  have hg:S.gl=gl:=by first | (simpa using hk.gl)|(have hh:=hk.gl;simp at hh;exact hh)
  have hmd:S.md=[]:=by first | (simpa using hk.md)|(have hh:=hk.md;simp at hh;exact hh)
  simp[h0,h5,hn,hg]
  have w:=wrap64 (n:=(i:Int)+1) (by omega) (by omega)
  refine BrT.dec (fun h=>?_) (fun h=>?_)
  · have hi2:i<l.length:=by omega
    have hlen:=defs_len l
    have hfit:i*4+4≤l.length*4:=by omega
    simp[h0,h1,h5,hn,h,hlen,hfit,defs_at]
    repeat refine⟨DrawT.mk (by kernel_rfl),?_⟩
    refine CallT.p0 (ih i hi2) (by first | rfl | (simp;done)|(simp[hg];done)) (by first | rfl | (simp;done)|(simp;rfl)|(simp[h0,h1,h5,hn,hg,hmd,h];done)) ?_
    simp[h0,h1,h5,hn,w]
    exact⟨⟨i+1,by omega,by omega⟩,upTo_lt h5 (by simp) hi2⟩
  · simp[hn,h]
abbrev noS:ByteArray:=⟨#[]⟩
def typB:Typ→Nat→Bool
  | _,0=>false
  | .mk t l _,d+1=>if t=noS then (match l with | [x]=>typB x d | _=>false) else nameB t&&decide (l.length=0)
set_option maxHeartbeats 1000000 in
theorem p_typeFormIn (v:Typ) (hv:TLe 4611686018427387904 v) (d:Nat) (hd:d≤1000000):PCall Tryz.prog gl 119 [v.d,dI d] (dB (typB v d)):=by
  match v,d,hv with
  | v,0,_ =>
    cases v with
    | mk t l b =>
    refine PCall.by_ (md:=[]) Tryz.func119 rfl (by kernel_rfl) (n:=32) Tryz.ntmps119 (by simp) (by decide) rfl ?_
    simp[Typ.cells,typB]
  | .mk t l b,d+1, .mk ht hl hwf =>
    have ih:∀ x,l=[x]→PCall Tryz.prog gl 119 [x.d,dI d] (dB (typB x d)):=fun x e=>p_typeFormIn x (hwf x (by simp[e])) d (by omega)
    refine PCall.by_ (md:=[]) Tryz.func119 rfl (by kernel_rfl) (n:=32) Tryz.ntmps119 (by simp) (by decide) rfl ?_
    have w0:IntKind.i64.wrap (d:Int)=d:=wrap64 (by omega) (by omega)
    have h1:¬ ((d:Int)+1<1):=by omega
    simp[Typ.cells,h1]
    by_cases ht0:t=noS
    · subst ht0
      simp
      match l,ih with
      | [],_=>simp[typB]
      | [x],ih =>
        simp[typB,w0,typsCells,tcells_len]
        repeat refine⟨DrawT.mk (by kernel_rfl),?_⟩
        refine CallT.p0 (ih x rfl) (by first | rfl | (simp;done)|(simp[Typ.cells,typB,w0,h1,typsCells,tcells_len];done)) (by first | rfl | (simp;done)|(simp;rfl)|(simp[Typ.cells,typB,w0,h1,typsCells,tcells_len];done)) ?_
        simp
      | x::y::r,_ =>
        have hr:¬ ((r.length:Int)+1+1=1):=by omega
        simp[typB,hr]
    · have ht1:¬ t=⟨#[]⟩:=ht0
      have hq:typB (.mk t l b) (d+1)=(nameB t&&decide (l.length=0)):=by unfold typB;rw[if_neg ht0]
      simp[ht0,hq]
      repeat refine⟨DrawT.mk (by kernel_rfl),?_⟩
      refine CallT.p0 (p_isName t ht) (by first | rfl | (simp;done)|(simp[Typ.cells,typB,w0,h1,ht0,ht1,hq];done)) (by first | rfl | (simp;done)|(simp;rfl)|(simp[Typ.cells,typB,w0,h1,ht0,ht1,hq];done)) ?_
      simp
      refine BrT.mk (fun hn2=>?_) (fun hn2=>?_)
      · simp[hn2]
      · simp[hn2]
  termination_by d
theorem p_typeForm (v:Typ) (hv:TLe 4611686018427387904 v):PCall Tryz.prog gl 60 [v.d] (dB (typB v 3)):=by
  have h:=p_typeFormIn (gl:=gl) v hv 3 (by omega)
  refine PCall.by_ (md:=[]) Tryz.func60 rfl (by kernel_rfl) (n:=5) Tryz.ntmps60 (by simp) (by decide) rfl ?_
  simp[tcells_len]
  repeat refine⟨DrawT.mk (by kernel_rfl),?_⟩
  refine CallT.p0 (h) (by first | rfl | (simp;done)|(simp[tcells_len];done)) (by first | rfl | (simp;done)|(simp;rfl)|(simp[tcells_len];done)) ?_
  simp
def groundB (s:ByteArray):Bool:=decide (s=⟨#[73,110,116]⟩) || decide (s=⟨#[83,116,114,105,110,103]⟩) || decide (s=⟨#[66,111,111,108,101,97,110]⟩) || decide (s=⟨#[73,68]⟩)
theorem p_isGround (s:ByteArray):PCall Tryz.prog gl 102 [dS s] (dB (groundB s)):=by
  refine PCall.by_ (md:=[]) Tryz.func102 rfl (by kernel_rfl) (n:=17) Tryz.ntmps102 (by simp) (by decide) rfl ?_
  simp
  repeat' first
    | (refine BrT.dec (fun h=>?_) (fun h=>?_)<;>simp[h])
  all_goals (unfold groundB;simp[*])
def baseT:Typ→ByteArray
  | .mk t l _=>if t=noS then (match l with | x::_=>baseT x | []=>noS) else t
def isZero:Val→Bool
  | .mk k n t l ns=>decide (k=0)&&decide (n=0)&&decide (t=noS)&&decide (l.length=0)&&decide (ns.length=0)
theorem isZero_iff {v:Val}:isZero v=true↔v=.mk 0 0 noS [] []:=by
  cases v with
  | mk k n t l ns =>
    simp[isZero,and_assoc]
set_option maxHeartbeats 1000000 in
theorem p_sameTop0 (v:Val) (hv:WF v):PCall Tryz.prog gl 144 [v.d,(Val.mk 0 0 noS [] []).d] (dB (isZero v)):=by
  cases hv with
  | mk ht hn hl hwf =>
    rename_i k n t l ns
    have heq:ns.length=0→PCall Tryz.prog gl 180 [namesD ns,namesD []] (dB true):=fun h=>by
      have:=List.eq_nil_of_length_eq_zero h
      subst this
      refine PCall.by_ (md:=[]) Tryz.func180 rfl (by kernel_rfl) (n:=26) Tryz.ntmps180 (by simp) (by decide) rfl ?_
      simp
      refine LoopT.rounds 1 ?_
      simp[RndT_succ]
    have hne:¬ ns.length=0→PCall Tryz.prog gl 180 [namesD ns,namesD []] (dB false):=fun h=>by
      refine PCall.by_ (md:=[]) Tryz.func180 rfl (by kernel_rfl) (n:=26) Tryz.ntmps180 (by simp) (by decide) rfl ?_
      have h1:¬ ((ns.length:Int)=0):=by omega
      simp[h]
    refine PCall.by_ (md:=[]) Tryz.func144 rfl (by kernel_rfl) (n:=40) Tryz.ntmps144 (by simp) (by decide) rfl ?_
    simp[Val.cells,valsCells,isZero]
    refine BrT.dec (fun c0=>?_) (fun c0=>?_)
    case refine_2=>simp[c0]
    simp[c0]
    refine BrT.dec (fun c1=>?_) (fun c1=>?_)
    case refine_2=>simp[c1]
    simp[c1]
    refine BrT.dec (fun c2=>?_) (fun c2=>?_)
    case refine_2=>simp[c2]
    simp[c2]
    refine BrT.dec (fun c3=>?_) (fun c3=>?_)
    case refine_2=>simp[c3]
    simp[valsCells,c3]
    by_cases h:ns.length=0
    · repeat refine⟨DrawT.mk (by kernel_rfl),?_⟩
      refine CallT.p0 (heq h) (by first | rfl | (simp;done)|(simp[Val.cells,valsCells,isZero,c0,c1,c2,c3];done)) (by first | rfl | (simp;done)|(simp;rfl)|(simp[Val.cells,valsCells,isZero,c0,c1,c2,c3];done)) ?_
      simp
      exact List.eq_nil_of_length_eq_zero h
    · repeat refine⟨DrawT.mk (by kernel_rfl),?_⟩
      refine CallT.p0 (hne h) (by first | rfl | (simp;done)|(simp[Val.cells,valsCells,isZero,c0,c1,c2,c3];done)) (by first | rfl | (simp;done)|(simp;rfl)|(simp[Val.cells,valsCells,isZero,c0,c1,c2,c3];done)) ?_
      simp
      exact fun e=>h (by rw[e];rfl)
set_option maxHeartbeats 1000000 in
theorem p_same0 (v:Val) (hv:WF v):PCall Tryz.prog gl 88 [v.d,(Val.mk 0 0 noS [] []).d] (dB (isZero v)):=by
  have hs:=p_sameTop0 (gl:=gl) v hv
  have hz:isZero v=true→v=.mk 0 0 noS [] []:=isZero_iff.1
  cases v with
  | mk k n t l ns =>
  generalize isZero (.mk k n t l ns)=z at hs hz ⊢
  refine PCall.by_ (md:=[16]) Tryz.func88 rfl (by kernel_rfl) (n:=85) Tryz.ntmps88 (by simp) (by decide) rfl ?_
  simp[Val.cells,valsCells]
  refine LoopT.rounds 2 ?_
  simp[RndT_succ]
  repeat refine⟨DrawT.mk (by kernel_rfl),?_⟩
  refine CallT.p0 (hs) (by first | rfl | (simp;done)|(simp[Val.cells,valsCells,RndT_succ];done)) (by first | rfl | (simp;done)|(simp;rfl)|(simp[Val.cells,valsCells,RndT_succ];done)) ?_
  simp
  cases z with
  | false=>simp
  | true =>
    obtain⟨rfl,rfl,rfl,rfl,rfl⟩:=Val.mk.inj (hz rfl)
    simp[valsCells]
def elseB (has:Bool) (v:Val):Bool:=if has=true then okB v 3 true else isZero v
theorem p_elseForm (has:Bool) (v:Val) (hv:WF v):PCall Tryz.prog gl 186 [dB has,v.d] (dB (elseB has v)):=by
  refine PCall.by_ (md:=[]) Tryz.func186 rfl (by kernel_rfl) (n:=12) Tryz.ntmps186 (by simp) (by decide) rfl ?_
  simp[elseB]
  cases has with
  | false =>
    simp[cells_len]
    repeat refine⟨DrawT.mk (by kernel_rfl),?_⟩
    refine CallT.p0 (p_same0 v hv) (by first | rfl | (simp;done)|(simp[elseB,cells_len];done)) (by first | rfl | (simp;done)|(simp;rfl)|(simp[elseB,cells_len];done)) ?_
    simp
  | true =>
    simp[cells_len]
    repeat refine⟨DrawT.mk (by kernel_rfl),?_⟩
    refine CallT.p0 (p_fitsIn v hv 3 true (by omega) (by omega)) (by first | rfl | (simp;done)|(simp[elseB,cells_len];done)) (by first | rfl | (simp;done)|(simp;rfl)|(simp[elseB,cells_len];done)) ?_
    simp
def argB (a:Arg):Bool:=typB a.ty 3&&elseB a.has a.els
abbrev anames (l:List Arg):List ByteArray:=l.map Arg.name
def argsB (l:List Arg):Bool:=decide (l.length≤4)&&(l.all argB&&onceB (anames l))
theorem all_take {α:Type}{p:α→Bool}{l:List α}{i:Nat} (hi:i<l.length) (h:(l.take i).all p=true) (hp:p l[i]=true):(l.take (i+1)).all p=true:=by
  rw[List.take_succ_eq_append_getElem hi,List.all_append,h];simp[hp]
theorem all_bad {α:Type}{p:α→Bool}{l:List α}{i:Nat} (hi:i<l.length) (hp:p l[i]=false):l.all p=false:=by
  cases h:l.all p with
  | false=>rfl
  | true=>rw[List.all_eq_true.1 h _ (List.getElem_mem hi)] at hp;cases hp
def accN {α:Type} (f:α→ByteArray) (l:List α) (i:Nat):List D:=((l.take i).map f).map dS
theorem accN_next {α:Type} (f:α→ByteArray) (l:List α) {i:Nat} (hi:i<l.length):accN f l (i+1)=accN f l i++[dS (f l[i])]:=by
  unfold accN
  rw[List.take_succ_eq_append_getElem hi,List.map_append,List.map_append];rfl
@[simp] theorem accN_zero {α:Type} (f:α→ByteArray) (l:List α):accN f l 0=[]:=rfl
theorem accN_len {α:Type} (f:α→ByteArray) (l:List α) {i:Nat} (hi:i≤l.length):(accN f l i).length=i:=by simp[accN];omega
theorem accN_all {α:Type} (f:α→ByteArray) (l:List α):accN f l l.length=(l.map f).map dS:=by simp[accN]
def allUp {α:Type} (p:α→Bool) (l:List α) (i:Nat):Prop:=(l.take i).all p=true
theorem allUp_zero {α:Type} (p:α→Bool) (l:List α):allUp p l 0:=rfl
theorem allUp_all {α:Type}{p:α→Bool}{l:List α} (h:allUp p l l.length):l.all p=true:=by
  unfold allUp at h
  rwa [List.take_length] at h
theorem AccD.snoc {α:Type}{f:α→ByteArray}{l:List α}{S S':St}{i q:Nat} (hi:i<l.length) (hq:q<S'.nx) (hT:S'.T q=some (i+1,1)) {x:ByteArray} (hx:x=f l[i]):AccD 1 S' (.tp q 0 (accN f l i++[dS x]) (i+1)) (accN f l (i+1)) (i+1):=by
  subst hx
  exact .inr ⟨by omega,q,hq,by rw[accN_next f l hi],hT⟩
theorem AccD.names {α:Type}{f:α→ByteArray}{l:List α}{S:St}{X:SV} (h:AccD 1 S X (accN f l l.length) l.length):X.toD=some (namesD (l.map f)):=by
  have e:(l.map f).length=l.length:=List.length_map ..
  rcases h with ⟨h1,h2,rfl⟩ | ⟨h0,q,hq,rfl,hT⟩
  · have:l=[]:=List.eq_nil_of_length_eq_zero h1
    subst this;rfl
  · simp only[SV.toD,accN_all,namesD,e]
set_option maxHeartbeats 2000000 in
theorem p_argsForm (l:List Arg) (hl:l.length≤4611686018427387904) (hok:∀ a∈l,ArgOk a):PCall Tryz.prog gl 156 [argsD l] (dB (argsB l)):=by
  refine PCall.by_ (md:=[]) Tryz.func156 rfl (by kernel_rfl) (n:=36) Tryz.ntmps156 (by simp) (by decide) rfl ?_
  simp
  refine BrT.dec (fun c0=>?_) (fun c0=>?_)
  · have:argsB l=false:=by simp[argsB];intro h;omega
    simp[c0,this]
  have hl4:l.length≤4:=by omega
  have hb:argsB l=(l.all argB&&onceB (anames l)):=by simp[argsB,hl4]
  simp[c0]
  refine LoopT.round (fun E S=>∃ (i:Nat) (X:SV),(i≤l.length)∧E 3=some (X)∧E 10=some (.d (argsD l))∧E 11=some (.d (dI l.length))∧E 12=some (.d (dI i))∧(AccD 1 S X (accN Arg.name l i) i)∧(allUp argB l i)) (upTo 12 l.length) ⟨0, .fl [] 0,by simp;exact⟨AccD.nil,allUp_zero _ _⟩⟩ ?_
  rintro E S hk ⟨i,X,hi,h3,h10,h11,h12,hA,hp⟩
  have hn:S.n=36:=by first | (simpa using hk.n)|(have hh:=hk.n;simp[c0] at hh;exact hh)
  have hg:S.gl=gl:=by first | (simpa using hk.gl)|(have hh:=hk.gl;simp[c0] at hh;exact hh)
  have hmd:S.md=[]:=by first | (simpa using hk.md)|(have hh:=hk.md;simp[c0] at hh;exact hh)
  simp[h11,h12,hn,hg]
  have w:=wrap64 (n:=(i:Int)+1) (by omega) (by omega)
  refine BrT.dec (fun c=>?_) (fun c=>?_)
  · have hi2:i<l.length:=by omega
    have hlen:=args_len l
    have hfit:i*10+10≤l.length*10:=by omega
    have hN:=hok _ (List.getElem_mem hi2)
    have bad:=all_bad (p:=argB) hi2
    have good:=all_take (p:=argB) hi2 hp
    have hat:=args_at l hi2
    have hcl:=accN_len Arg.name l hi
    obtain⟨x,hx⟩:∃ x,l[i].name=x:=⟨_,rfl⟩
    have hsn:=fun S' q h1 h2=>AccD.snoc (f:=Arg.name) (l:=l) (S:=S) (S':=S') (i:=i) (q:=q) hi2 h1 h2 hx.symm
    generalize hav:l[i]=a at hN bad good hat hx
    have hT:=p_typeForm (gl:=gl) a.ty hN.2.1
    have hE:=p_elseForm (gl:=gl) a.has a.els hN.2.2
    have hab:argB a=(typB a.ty 3&&elseB a.has a.els):=rfl
    obtain⟨nm,ty,has,els⟩:=a
    cases ty with
    | mk t lt b =>
    cases els with
    | mk k n t2 l2 ns =>
    simp only[Arg.cells,Typ.cells,Val.cells,List.cons_append,List.nil_append] at hat
    simp[h10,h12,hn,c,hlen,hfit,hat]
    repeat refine⟨DrawT.mk (by kernel_rfl),?_⟩
    refine CallT.p0 (hT) (by first | rfl | (simp;done)|(simp[hg];done)) (by first | rfl | (simp;done)|(simp;rfl)|(simp[c0,h3,h10,h11,h12,hn,hg,hmd,c,hi2,w,hlen,hfit,hat];done)) ?_
    simp[hn]
    simp only at hab
    refine BrT.mk (fun c1=>?_) (fun c1=>?_)
    case refine_2=>(have hq:=bad (by rw[hab,c1];rfl);simp[hn,c1,hb,hq])
    simp[hn,c1]
    repeat refine⟨DrawT.mk (by kernel_rfl),?_⟩
    refine CallT.p0 (hE) (by first | rfl | (simp;done)|(simp[hg];done)) (by first | rfl | (simp;done)|(simp;rfl)|(simp[c0,h3,h10,h11,h12,hn,hg,hmd,c,hi2,w,hlen,hfit,hat,c1];done)) ?_
    simp[hn]
    refine BrT.mk (fun c2=>?_) (fun c2=>?_)
    case refine_2=>(have hq:=bad (by rw[hab,c2,Bool.and_false]);simp[hn,c2,hb,hq])
    simp[h3,hn,hmd,c2]
    have hp2:allUp argB l (i+1):=good (by rw[hab,c1,c2];rfl)
    simp only at hx
    subst hx
    rcases hA with ⟨rfl,_,rfl⟩ | ⟨h0,q,hq,rfl,hT⟩
    · simp[h10,h11,h12,hn,hmd]
      exact⟨by unfold appBound;omega,⟨1,by omega,rfl,hsn _ _ (by simp) (by simp),hp2⟩,upTo_lt h12 (by simp) hi2⟩
    · simp[h10,h11,h12,hn,w,hT,hcl]
      exact⟨by unfold appBound;omega,⟨i+1,hi2,by omega,hsn _ _ (by simp;omega) (by simp),hp2⟩,upTo_lt h12 (by simp) hi2⟩
  · have hi3:i=l.length:=by omega
    subst hi3
    have hnm:NamesOk (anames l):=⟨by simp;omega,fun s hs=>by
      obtain⟨a,ha,rfl⟩:=List.mem_map.1 hs
      exact (hok a ha).1⟩
    have hX:=hA.names
    have hp:=allUp_all hp
    simp[h3,hn,c]
    refine CallT.p (p_namesOnce (anames l) hnm) (by first | rfl | simp[hg]) (by show (match X.toD,some [] with | some x,some r=>some (x::r) | _,_=>none)=_;rw[hX]) ?_
    simp[hn,hb,hp]
def fldB (inp:Bool) (f:Fld):Bool:=typB f.ty 3&&argsB f.args && !(inp&&decide (0<f.args.length))
abbrev fnames (l:List Fld):List ByteArray:=l.map Fld.name
def fldsB (inp:Bool) (l:List Fld):Bool:=decide (1≤l.length)&&decide (l.length≤8)&&(l.all (fldB inp)&&onceB (fnames l))
set_option maxHeartbeats 2000000 in
theorem p_fieldsForm (l:List Fld) (inp:Bool) (hl:l.length≤4611686018427387904) (hok:∀ a∈l,FldOk a):PCall Tryz.prog gl 103 [fldsD l,dB inp] (dB (fldsB inp l)):=by
  refine PCall.by_ (md:=[]) Tryz.func103 rfl (by kernel_rfl) (n:=50) Tryz.ntmps103 (by simp) (by decide) rfl ?_
  simp
  by_cases hin:1≤l.length∧l.length≤8
  case neg =>
    have hb:fldsB inp l=false:=by
      unfold fldsB
      rw[show (decide (1≤l.length)&&decide (l.length≤8))=false by simp;omega];rfl
    refine BrT.dec (fun c0=>?_) (fun c0=>?_)
    · simp[c0,hb]
    · simp[c0]
      have c1:(8:Int)<l.length:=by omega
      simp[c1,hb]
  have hb:fldsB inp l=(l.all (fldB inp)&&onceB (fnames l)):=by
    unfold fldsB
    rw[show (decide (1≤l.length)&&decide (l.length≤8))=true by simp;omega];rfl
  have n1:¬ ((l.length:Int)<1):=by omega
  have n2:¬ ((8:Int)<l.length):=by omega
  simp[n1,n2]
  refine LoopT.round (fun E S=>∃ (i:Nat) (X:SV),(i≤l.length)∧E 1=some (.d (dB inp))∧E 5=some (X)∧E 17=some (.d (fldsD l))∧E 18=some (.d (dI l.length))∧E 19=some (.d (dI i))∧(AccD 1 S X (accN Fld.name l i) i)∧(allUp (fldB inp) l i)) (upTo 19 l.length) ⟨0, .fl [] 0,by simp;exact⟨AccD.nil,allUp_zero _ _⟩⟩ ?_
  rintro E S hk ⟨i,X,hi,h1,h5,h17,h18,h19,hA,hp⟩
  have hn:S.n=50:=by first | (simpa using hk.n)|(have hh:=hk.n;simp[n1,n2] at hh;exact hh)
  have hg:S.gl=gl:=by first | (simpa using hk.gl)|(have hh:=hk.gl;simp[n1,n2] at hh;exact hh)
  have hmd:S.md=[]:=by first | (simpa using hk.md)|(have hh:=hk.md;simp[n1,n2] at hh;exact hh)
  simp[h18,h19,hn,hg]
  have w:=wrap64 (n:=(i:Int)+1) (by omega) (by omega)
  refine BrT.dec (fun c=>?_) (fun c=>?_)
  · have hi2:i<l.length:=by omega
    have hlen:=flds_len l
    have hfit:i*5+5≤l.length*5:=by omega
    have hN:=hok _ (List.getElem_mem hi2)
    have bad:=all_bad (p:=fldB inp) hi2
    have good:=all_take (p:=fldB inp) hi2 hp
    have hat:=flds_at l hi2
    have hcl:=accN_len Fld.name l hi
    obtain⟨x,hx⟩:∃ x,l[i].name=x:=⟨_,rfl⟩
    have hsn:=fun S' q h1 h2=>AccD.snoc (f:=Fld.name) (l:=l) (S:=S) (S':=S') (i:=i) (q:=q) hi2 h1 h2 hx.symm
    generalize hav:l[i]=a at hN bad good hat hx
    have hT:=p_typeForm (gl:=gl) a.ty hN.2.2
    have hE:=p_argsForm (gl:=gl) a.args hN.2.1.1 hN.2.1.2
    have hab:fldB inp a=(typB a.ty 3&&argsB a.args && !(inp&&decide (0<a.args.length))):=rfl
    obtain⟨nm,args,ty⟩:=a
    cases ty with
    | mk t lt b =>
    simp only[Fld.cells,Typ.cells] at hat
    simp[h17,h19,hn,c,hlen,hfit,hat]
    repeat refine⟨DrawT.mk (by kernel_rfl),?_⟩
    refine CallT.p0 (hT) (by first | rfl | (simp;done)|(simp[hg];done)) (by first | rfl | (simp;done)|(simp;rfl)|(simp[n1,n2,h1,h5,h17,h18,h19,hn,hg,hmd,c,hi2,w,hlen,hfit,hat];done)) ?_
    simp[hn]
    simp only at hab
    refine BrT.mk (fun c1=>?_) (fun c1=>?_)
    case refine_2=>(have hq:=bad (by rw[hab,c1];rfl);simp[hn,c1,hb,hq])
    simp[hn,c1]
    repeat refine⟨DrawT.mk (by kernel_rfl),?_⟩
    refine CallT.p0 (hE) (by first | rfl | (simp;done)|(simp[hg];done)) (by first | rfl | (simp;done)|(simp;rfl)|(simp[n1,n2,h1,h5,h17,h18,h19,hn,hg,hmd,c,hi2,w,hlen,hfit,hat,c1];done)) ?_
    simp[hn]
    refine BrT.mk (fun c2=>?_) (fun c2=>?_)
    case refine_2=>(have hq:=bad (by rw[hab,c2,Bool.and_false];rfl);simp[hn,c2,hb,hq])
    cases inp with
    | false =>
      simp[h1,h5,hn,hmd,c2]
      have hp2:allUp (fldB false) l (i+1):=good (by rw[hab,c1,c2];rfl)
      simp only at hx
      subst hx
      rcases hA with ⟨rfl,_,rfl⟩ | ⟨h0,q,hq,rfl,hT⟩
      · simp[h1,h17,h18,h19,hn,hmd]
        exact⟨by unfold appBound;omega,⟨1,by omega,rfl,hsn _ _ (by simp) (by simp),hp2⟩,upTo_lt h19 (by simp) hi2⟩
      · simp[h1,h17,h18,h19,hn,w,hT,hcl]
        exact⟨by unfold appBound;omega,⟨i+1,hi2,by omega,hsn _ _ (by simp;omega) (by simp),hp2⟩,upTo_lt h19 (by simp) hi2⟩
    | true =>
      by_cases hz:0<args.length
      · have hz2:(0:Int)<args.length:=by omega
        have hq:=bad (by rw[hab,decide_eq_true hz];simp)
        simp[h1,hn,c2,hz,hb,hq]
      · have hz3:args=[]:=List.eq_nil_of_length_eq_zero (by omega)
        subst hz3
        simp[h1,h5,hn,hmd,c2]
        have hp2:allUp (fldB true) l (i+1):=good (by rw[hab,c1,c2];rw[decide_eq_false hz];rfl)
        simp only at hx
        subst hx
        rcases hA with ⟨rfl,_,rfl⟩ | ⟨h0,q,hq,rfl,hT⟩
        · simp[h1,h17,h18,h19,hn,hmd]
          exact⟨by unfold appBound;omega,⟨1,by omega,rfl,hsn _ _ (by simp) (by simp),hp2⟩,upTo_lt h19 (by simp) hi2⟩
        · simp[h1,h17,h18,h19,hn,w,hT,hcl]
          exact⟨by unfold appBound;omega,⟨i+1,hi2,by omega,hsn _ _ (by simp;omega) (by simp),hp2⟩,upTo_lt h19 (by simp) hi2⟩
  · have hi3:i=l.length:=by omega
    subst hi3
    have hnm:NamesOk (fnames l):=⟨by simp;omega,fun s hs=>by
      obtain⟨a,ha,rfl⟩:=List.mem_map.1 hs
      exact (hok a ha).1⟩
    have hX:=hA.names
    have hp:=allUp_all hp
    simp[h5,hn,c]
    refine CallT.p (p_namesOnce (fnames l) hnm) (by first | rfl | simp[hg]) (by show (match X.toD,some [] with | some x,some r=>some (x::r) | _,_=>none)=_;rw[hX]) ?_
    simp[hn,hb,hp]
def defB (d:Def):Bool:=nameB d.name && !groundB d.name &&
  (if d.kind=1∨d.kind=3 then decide (d.words.length=0)&&fldsB (decide (d.kind=3)) d.flds
   else if d.kind=2∨d.kind=4 then decide (d.flds.length=0)&&(decide (1≤d.words.length)&&(decide (d.words.length≤8)&&onceB d.words))
   else false)
set_option maxHeartbeats 2000000 in
theorem p_defForm (d:Def) (hok:DefOk d):PCall Tryz.prog gl 46 [d.d] (dB (defB d)):=by
  obtain⟨h1,h2,h3⟩:=hok
  have hF:=fun b=>p_fieldsForm (gl:=gl) d.flds b h2.1 h2.2
  obtain⟨nm,kind,flds,words⟩:=d
  simp only at h1 h2 h3 hF
  refine PCall.by_ (md:=[]) Tryz.func46 rfl (by kernel_rfl) (n:=53) Tryz.ntmps46 (by simp) (by decide) rfl ?_
  simp[Def.cells,defB]
  repeat refine⟨DrawT.mk (by kernel_rfl),?_⟩
  refine CallT.p0 (p_isName nm h1) (by first | rfl | (simp;done)|(simp[Def.cells,defB];done)) (by first | rfl | (simp;done)|(simp;rfl)|(simp[Def.cells,defB];done)) ?_
  simp
  refine BrT.mk (fun c1=>?_) (fun c1=>?_)
  case refine_2=>simp[c1]
  simp[c1]
  repeat refine⟨DrawT.mk (by kernel_rfl),?_⟩
  refine CallT.p0 (p_isGround nm) (by first | rfl | (simp;done)|(simp[Def.cells,defB,c1];done)) (by first | rfl | (simp;done)|(simp;rfl)|(simp[Def.cells,defB,c1];done)) ?_
  simp
  refine BrT.mk (fun c2=>?_) (fun c2=>?_)
  case refine_1=>simp[c2]
  simp[c2]
  refine BrT.dec (fun k1=>?_) (fun k1=>?_)
  · simp[k1]
    refine BrT.dec (fun w0=>?_) (fun w0=>?_)
    case refine_2=>simp[w0]
    simp[w0]
    repeat refine⟨DrawT.mk (by kernel_rfl),?_⟩
    refine CallT.p0 (hF false) (by first | rfl | (simp;done)|(simp[Def.cells,defB,c1,c2,k1,w0];done)) (by first | rfl | (simp;done)|(simp;rfl)|(simp[Def.cells,defB,c1,c2,k1,w0];done)) ?_
    simp
  simp[k1]
  refine BrT.dec (fun k3=>?_) (fun k3=>?_)
  · simp[k3]
    refine BrT.dec (fun w0=>?_) (fun w0=>?_)
    case refine_2=>simp[w0]
    simp[w0]
    repeat refine⟨DrawT.mk (by kernel_rfl),?_⟩
    refine CallT.p0 (hF true) (by first | rfl | (simp;done)|(simp[Def.cells,defB,c1,c2,k1,k3,w0];done)) (by first | rfl | (simp;done)|(simp;rfl)|(simp[Def.cells,defB,c1,c2,k1,k3,w0];done)) ?_
    simp
  simp[k3]
  refine BrT.dec (fun k2=>?_) (fun k2=>?_)
  · simp[k2]
    refine BrT.dec (fun f0=>?_) (fun f0=>?_)
    case refine_2=>simp[f0]
    simp[f0]
    by_cases g1:1≤words.length
    · by_cases g2:words.length≤8
      · have g3:(1:Int)≤words.length:=by omega
        have g4:(words.length:Int)≤8:=by omega
        have g5:words≠[]:=fun e=>by rw[e] at g1;simp at g1
        simp[g1,g2,g3,g4]
        repeat refine⟨DrawT.mk (by kernel_rfl),?_⟩
        refine CallT.p0 (p_namesOnce words h3) (by first | rfl | (simp;done)|(simp[Def.cells,defB,c1,c2,k1,k3,k2,f0,g1,g2,g3,g4,g5];done)) (by first | rfl | (simp;done)|(simp;rfl)|(simp[Def.cells,defB,c1,c2,k1,k3,k2,f0,g1,g2,g3,g4,g5];done)) ?_
        simp
      · have g3:(1:Int)≤words.length:=by omega
        have g4:¬ (words.length:Int)≤8:=by omega
        simp[g1,g2,g3,g4]
    · have g3:¬ (1:Int)≤words.length:=by omega
      simp[g1,g3]
  simp[k2]
  refine BrT.dec (fun k4=>?_) (fun k4=>?_)
  · simp[k4]
    refine BrT.dec (fun f0=>?_) (fun f0=>?_)
    case refine_2=>simp[f0]
    simp[f0]
    by_cases g1:1≤words.length
    · by_cases g2:words.length≤8
      · have g3:(1:Int)≤words.length:=by omega
        have g4:(words.length:Int)≤8:=by omega
        have g5:words≠[]:=fun e=>by rw[e] at g1;simp at g1
        simp[g1,g2,g3,g4]
        repeat refine⟨DrawT.mk (by kernel_rfl),?_⟩
        refine CallT.p0 (p_namesOnce words h3) (by first | rfl | (simp;done)|(simp[Def.cells,defB,c1,c2,k1,k3,k2,k4,f0,g1,g2,g3,g4,g5];done)) (by first | rfl | (simp;done)|(simp;rfl)|(simp[Def.cells,defB,c1,c2,k1,k3,k2,k4,f0,g1,g2,g3,g4,g5];done)) ?_
        simp
      · have g3:(1:Int)≤words.length:=by omega
        have g4:¬ (words.length:Int)≤8:=by omega
        simp[g1,g2,g3,g4]
    · have g3:¬ (1:Int)≤words.length:=by omega
      simp[g1,g3]
  simp[k4]
theorem nameB_no:nameB noS=false:=by decide
set_option maxHeartbeats 2000000 in
theorem p_l2Type (v:Typ) (hv:TLe 4611686018427387904 v) (d:Nat) (hd:d≤1000000):PCall Tryz.prog gl 77 [v.d,dI (d+1:Nat)] (dB (typB v (d+1))):=by
  match v,d,hv with
  | .mk t l b,d, .mk ht hl hwf =>
    have ih:∀ x e,l=[x]→d=e+1→PCall Tryz.prog gl 77 [x.d,dI (e+1:Nat)] (dB (typB x (e+1))):=fun x e h1 h2=>p_l2Type x (hwf x (by simp[h1])) e (by omega)
    match l,ih with
    | [],_ =>
      have hq:typB (.mk t [] b) (d+1)=nameB t:=by
        unfold typB
        by_cases h0:t=noS
        · subst h0;rw[if_pos rfl,nameB_no]
        · rw[if_neg h0];simp
      refine PCall.by_ (md:=[]) Tryz.func77 rfl (by kernel_rfl) (n:=34) Tryz.ntmps77 (by simp) (by decide) rfl ?_
      simp[Typ.cells,hq]
      repeat refine⟨DrawT.mk (by kernel_rfl),?_⟩
      refine CallT.p0 (p_l1Name t ht) (by first | rfl | (simp;done)|(simp[Typ.cells,hq];done)) (by first | rfl | (simp;done)|(simp;rfl)|(simp[Typ.cells,hq];done)) ?_
      simp
    | [x],ih =>
      have hq:typB (.mk t [x] b) (d+1)=(decide (t=noS)&&typB x d):=by
        rw[typB]
        by_cases h0:t=noS
        · rw[if_pos h0,decide_eq_true h0];simp
        · rw[if_neg h0,decide_eq_false h0];simp
      refine PCall.by_ (md:=[]) Tryz.func77 rfl (by kernel_rfl) (n:=34) Tryz.ntmps77 (by simp) (by decide) rfl ?_
      simp[Typ.cells,hq,typsCells]
      refine BrT.dec (fun t0=>?_) (fun t0=>?_)
      case refine_2=>simp[t0]
      simp[t0]
      cases d with
      | zero =>
        have hz:typB x 0=false:=by cases x;rfl
        simp[hz]
      | succ e =>
        have h2:IntKind.i64.wrap ((e:Int)+1)=(e:Int)+1:=wrap64 (by omega) (by omega)
        have ih:=ih x e rfl rfl
        rw[show ((e+1:Nat):Int)=(e:Int)+1 from rfl] at ih
        refine BrT.dec (fun g=>?_) (fun g=>?_)
        case refine_2=>(exact absurd g (by omega))
        simp
        refine BrT.dec (fun g2=>?_) (fun g2=>?_)
        case refine_2=>(exact absurd g2 (by omega))
        simp[tcells_len,h2,g2]
        repeat refine⟨DrawT.mk (by kernel_rfl),?_⟩
        refine CallT.p0 (ih) (by first | rfl | (simp;done)|(simp[Typ.cells,hq,typsCells,tcells_len,t0,h2,g,g2];done)) (by first | rfl | (simp;done)|(simp;rfl)|(simp[Typ.cells,hq,typsCells,tcells_len,t0,h2,g,g2];done)) ?_
        simp
    | x::y::r,_ =>
      have hq:typB (.mk t (x::y::r) b) (d+1)=false:=by
        unfold typB
        by_cases h0:t=noS
        · rw[if_pos h0]
        · rw[if_neg h0];simp
      have hr:¬ ((r.length:Int)+1+1=1):=by omega
      have hr0:¬ ((r.length:Int)+1+1=0):=by omega
      refine PCall.by_ (md:=[]) Tryz.func77 rfl (by kernel_rfl) (n:=34) Tryz.ntmps77 (by simp) (by decide) rfl ?_
      simp[Typ.cells,hq,hr0]
      refine BrT.dec (fun t0=>?_) (fun t0=>?_)
      case refine_2=>simp[t0]
      simp[hr,t0]
  termination_by d
def atD (l:List Def) (s:ByteArray):Option Nat:=l.findIdx? fun d=>decide (d.name=s)
def schGo:List Def→List Def→List Def
  | acc,[]=>acc
  | acc,d::r=>match atD acc d.name with | none=>schGo (acc++[d]) r | some _=>schGo acc r
def schL (l:List Def):List Def:=schGo [] l
def ksD (l:List Def):List D:=l.map fun d=>.v (.string d.name)
def vsD (l:List Def):List SV:=l.map fun d=>.ag (d.cells.map .d)
abbrev schD (l:List Def):D:=.mp (ksD l) (l.map Def.d)
theorem idx_ks (l:List Def) (s:ByteArray):idxK (ksD l) s=some (atD l s):=idxK_map Def.name s l
@[simp] theorem vsD_len (l:List Def):(vsD l).length=l.length:=List.length_map ..
@[simp] theorem ksD_len (l:List Def):(ksD l).length=l.length:=List.length_map ..
theorem vsD_snoc (l:List Def) (d:Def):vsD (l++[d])=vsD l++[.ag (d.cells.map .d)]:=by simp[vsD]
theorem ksD_snoc (l:List Def) (d:Def):ksD (l++[d])=ksD l++[.v (.string d.name)]:=by simp[ksD]
theorem atD_lt {l:List Def}{s:ByteArray}{j:Nat} (h:atD l s=some j):j<l.length:=by
  unfold atD at h
  exact (List.findIdx?_eq_some_iff_getElem.1 h).1
theorem frz_vs (B:Nat→Option (List SV)) (k:Nat) (l:List Def):mapO (frz B (k+2)) (vsD l)=some (l.map Def.d):=by
  induction l with
  | nil=>rfl
  | cons d r ih =>
    have h1:frz B (k+2) (.ag (d.cells.map .d))=some d.d:=by
      show (mapO (frz B (k+1)) (d.cells.map .d)).map D.agg=_
      rw[mapO_frzd];rfl
    simp only[vsD,List.map_cons,mapO]
    simp only[vsD] at ih
    rw[h1,ih]
set_option maxHeartbeats 2000000 in
theorem p_schemaOf (l:List Def) (hl:l.length≤1000000):PCall Tryz.prog gl 47 [defsD l] (schD (schL l)):=by
  refine PCall.by_ (md:=[]) Tryz.func47 rfl (by kernel_rfl) (n:=30) Tryz.ntmps47 (by simp) (by decide) rfl ?_
  simp
  refine LoopT.round (fun E S=>∃ (i:Nat) (acc:List Def),(i≤l.length)∧E 3=some (.mv 1)∧E 9=some (.d (defsD l))∧E 10=some (.d (dI l.length))∧E 11=some (.d (dI i))∧S.B 1=some ([.mc (ksD acc) (vsD acc)])∧(schGo acc (l.drop i)=schL l)∧(2≤S.nx)) (upTo 11 l.length) ⟨0,[],by simp;exact⟨⟨rfl,rfl⟩,rfl⟩⟩ ?_
  rintro E S hk ⟨i,acc,hi,h3,h9,h10,h11,hB1,hp,hx⟩
  have hn:S.n=30:=by first | (simpa using hk.n)|(have hh:=hk.n;simp at hh;exact hh)
  have hg:S.gl=gl:=by first | (simpa using hk.gl)|(have hh:=hk.gl;simp at hh;exact hh)
  have hmd:S.md=[]:=by first | (simpa using hk.md)|(have hh:=hk.md;simp at hh;exact hh)
  simp[h10,h11,hn,hg]
  have w:=wrap64 (n:=(i:Int)+1) (by omega) (by omega)
  refine BrT.dec (fun c=>?_) (fun c=>?_)
  · have hi2:i<l.length:=by omega
    have hlen:=defs_len l
    have hfit:i*4+4≤l.length*4:=by omega
    rw[List.drop_eq_getElem_cons hi2] at hp
    have hat:=defs_at l hi2
    generalize l[i]=d at hp hat
    obtain⟨nm,kind,flds,words⟩:=d
    simp only[Def.cells] at hat
    simp[h3,h9,h11,hB1,hn,hg,c,hlen,hfit,hat]
    cases ha:atD acc nm with
    | none =>
      have hi0:idxK (ksD acc) nm=some none:=by rw[idx_ks,ha]
      refine⟨_,lookS_none (e:=29) (z:=.ag [.d (dS noS), .d (dI 0), .fl [] 0, .fl [] 0]) (by kernel_rfl) hi0 (by kernel_rfl),?_⟩
      simp[h3,h9,h10,h11,hB1,hn,hg,w]
      simp only[schGo,ha] at hp
      exact⟨_,updK_none hi0,⟨i+1,hi2,by omega,acc++[⟨nm,kind,flds,words⟩],by rw[ksD_snoc,vsD_snoc];rfl,hp⟩,upTo_lt h11 (by simp) hi2⟩
    | some j =>
      have hj:=atD_lt ha
      have hi0:idxK (ksD acc) nm=some (some j):=by rw[idx_ks,ha]
      refine⟨_,lookS_at (e:=29) (by kernel_rfl) hi0 (List.getElem?_eq_getElem (by simpa using hj)),?_⟩
      simp[h3,h9,h10,h11,hB1,hn,w]
      simp only[schGo,ha] at hp
      have hv:(vsD acc)[j]'(by simpa using hj)=.ag (acc[j].cells.map .d):=by simp[vsD]
      exact⟨⟨by rw[hv];rfl,by rw[hv];rfl⟩,⟨i+1,hi2,by omega,acc,⟨rfl,rfl⟩,hp⟩,upTo_lt h11 (by simp) hi2⟩
  · rw[List.drop_eq_nil_of_le (by omega),schGo] at hp
    subst hp
    simp[h3,hB1,hn,c]
    exact frz_vs _ _ _
theorem all_seen {l:List Def}{p:Def→Bool}{seen:List Nat} (h:∀ j∈seen,∀ (hj:j<l.length),p l[j]=true) (hall:∀ j,j<l.length→j∈seen):l.all p=true :=
  List.all_eq_true.2 fun d hd=>by
    obtain⟨j,hj,rfl⟩:=List.getElem_of_mem hd
    exact h j (hall j hj) hj
def walkMu (n:Nat) (E:Env) (S:St):Nat:=match E 8 with
  | some (.iv b)=>(match S.B b with | some [.ic _ _ seen]=>((List.range n).filter fun j=>!seen.contains j).length | _=>0)
  | _=>0
theorem walkMu_lt {n b j:Nat}{E E':Env}{S S':St}{ks vs:List D}{seen:List Nat} (h:E 8=some (.iv b)) (hB:S.B b=some [.ic ks vs seen]) (h':E' 8=some (.iv b)) (hB':S'.B b=some [.ic ks vs (seen++[j])]) (hj:j<n) (hn:j∉seen):walkMu n E' S'<walkMu n E S:=by
  unfold walkMu
  rw[h,h']
  simp only[hB,hB']
  have e:((List.range n).filter fun k=>!(seen++[j]).contains k)=((List.range n).filter fun k=>!seen.contains k).filter fun k=>!(k == j):=by
    rw[List.filter_filter]
    congr 1
    funext k
    by_cases c:k=j<;>simp[c]
  rw[e]
  have hm:j∈(List.range n).filter fun k=>!seen.contains k:=by simp[hj,hn]
  have:=List.length_filter_lt_length_iff_exists (p:=fun k=>!(k == j)) (l:=(List.range n).filter fun k=>!seen.contains k)
  exact this.2 ⟨j,hm,by simp⟩
set_option maxHeartbeats 2000000 in
theorem p_eachDef (l:List Def) (f:FuncId) (caps:List D) (p:Def→Bool) (h:∀ d∈l,PCall Tryz.prog gl f (d.d::caps) (dB (p d))):PCall Tryz.prog gl 105 [schD l, .fn (.func f) [] caps] (dB (l.all p)):=by
  refine PCall.by_ (md:=[]) Tryz.func105 rfl (by kernel_rfl) (n:=17) Tryz.ntmps105 (by simp) (by decide) rfl ?_
  simp
  refine LoopT.round (fun E S=>∃ (seen:List Nat),E 1=some (.d (.fn (.func f) [] caps))∧E 8=some (.iv 2)∧S.B 2=some ([.ic (ksD l) (l.map Def.d) seen])∧(∀ j∈seen,∀ (hj:j<l.length),p l[j]=true)) (walkMu l.length) ⟨[],by simp⟩ ?_
  rintro E S hk ⟨seen,h1,h8,hB2,hp⟩
  have hn:S.n=17:=by first | (simpa using hk.n)|(have hh:=hk.n;simp at hh;exact hh)
  have hg:S.gl=gl:=by first | (simpa using hk.gl)|(have hh:=hk.gl;simp at hh;exact hh)
  have hmd:S.md=[]:=by first | (simpa using hk.md)|(have hh:=hk.md;simp at hh;exact hh)
  simp[h8,hB2,hn]
  refine nextV.mk (fun j hk1 hv1 hj=>?_) (fun hall=>?_)
  · have hj2:j<l.length:=by simpa using hk1
    have kj:(ksD l)[j]?=some (dS l[j].name):=by simp[ksD,hj2]
    have lj:l[j]?=some l[j]:=List.getElem?_eq_getElem hj2
    simp[h1,h8,hn,kj,lj,dcells_len]
    have hd:=h _ (List.getElem_mem hj2)
    repeat refine⟨DrawT.mk (by kernel_rfl),?_⟩
    refine CallT.p0 (hd) (by first | rfl | (simp;done)|(simp[hg];done)) (by first | rfl | (simp;done)|(simp;rfl)|(simp[h1,h8,hB2,hn,hg,hmd,kj,lj,dcells_len];done)) ?_
    simp[hn]
    refine BrT.mk (fun c=>?_) (fun c=>?_)
    case refine_2=>(have hq:l.all p=false:=all_bad hj2 c;simp only[hq];simp[hn,c])
    simp[h1,h8,c]
    refine⟨fun k hk2 hk3=>?_,walkMu_lt h8 hB2 (by simp[h8]) (by first | (simp;done)|(((try simp);(repeat first | rw[if_neg (by omega)] | rw[if_pos (by omega)]);(try (intro h;exfalso;omega));(try (intro _;(repeat first | rw[if_neg (by omega)] | rw[if_pos (by omega)]))));done)) hj2 hj⟩
    rcases hk2 with h1 | rfl
    · exact hp k h1 hk3
    · exact c
  · simp[hn]
    exact List.all_eq_true.1 (all_seen hp (by simpa using hall))
def zeroDef:Def:=⟨noS,0,[],[]⟩
def defL (l:List Def) (s:ByteArray):Def:=match atD l s with | some j=>l.getD j zeroDef | none=>zeroDef
def kindL (l:List Def) (s:ByteArray):Int:=(defL l s).kind
theorem defL_none {l:List Def}{s:ByteArray} (h:atD l s=none):defL l s=zeroDef:=by unfold defL;rw[h]
theorem defL_some {l:List Def}{s:ByteArray}{j:Nat} (h:atD l s=some j):defL l s=l[j]'(atD_lt h):=by
  unfold defL;rw[h]
  simp[List.getD_eq_getElem?_getD,atD_lt h]
theorem look_some {l:List Def}{s:ByteArray}{j:Nat}{ok:Bool} (h:atD l s=some j):lookS Tryz.prog 72 (ksD l) (l.map (SV.d∘Def.d)) s ok=some (if ok then .tu [.d (defL l s).d, .d (.v (.bool true))] else .d (defL l s).d):=by
  rw[defL_some h]
  exact lookS_at (e:=29) (by kernel_rfl) (by rw[idx_ks,h]) (by simp[atD_lt h])
theorem look_none {l:List Def}{s:ByteArray}{ok:Bool} (h:atD l s=none):lookS Tryz.prog 72 (ksD l) (l.map (SV.d∘Def.d)) s ok=some (if ok then .tu [.ag [.d (dS noS), .d (dI 0), .fl [] 0, .fl [] 0], .d (.v (.bool false))] else .ag [.d (dS noS), .d (dI 0), .fl [] 0, .fl [] 0]) :=
  lookS_none (e:=29) (by kernel_rfl) (by rw[idx_ks,h]) (by kernel_rfl)
@[simp] theorem dcells_kind (d:Def):d.cells[1]?=some (dI d.kind):=rfl
set_option maxHeartbeats 2000000 in
theorem p_isObject (l:List Def) (s:ByteArray):PCall Tryz.prog gl 110 [schD l,dS s] (dB (decide (kindL l s=1))):=by
  refine PCall.by_ (md:=[]) Tryz.func110 rfl (by kernel_rfl) (n:=10) Tryz.ntmps110 (by simp) (by decide) rfl ?_
  simp
  cases h:atD l s with
  | none =>
    refine⟨_,look_none h,?_⟩
    simp[kindL,defL_none h,zeroDef]
  | some j =>
    refine⟨_,look_some h,?_⟩
    simp[kindL]
    rfl
set_option maxHeartbeats 2000000 in
theorem p_isThere (l:List Def) (s:ByteArray):PCall Tryz.prog gl 107 [schD l,dS s] (dB ((atD l s).isSome || groundB s)):=by
  refine PCall.by_ (md:=[]) Tryz.func107 rfl (by kernel_rfl) (n:=18) Tryz.ntmps107 (by simp) (by decide) rfl ?_
  simp
  cases h:atD l s with
  | none =>
    refine⟨_,look_none h,?_⟩
    simp
    repeat refine⟨DrawT.mk (by kernel_rfl),?_⟩
    refine CallT.p0 (p_isGround s) (by first | rfl | (simp;done)|(simp;done)) (by first | rfl | (simp;done)|(simp;rfl)|(simp;done)) ?_
    simp
  | some j =>
    refine⟨_,look_some h,?_⟩
    simp[dcells_len]
def givenB (l:List Def) (s:ByteArray):Bool:=groundB s || decide (kindL l s=2) || decide (kindL l s=3)
def outB (l:List Def) (s:ByteArray):Bool:=groundB s || decide (kindL l s=2) || decide (kindL l s=1) || decide (kindL l s=4)
set_option maxHeartbeats 2000000 in
theorem p_isGivenIn (l:List Def) (s:ByteArray):PCall Tryz.prog gl 62 [schD l,dS s] (dB (givenB l s)):=by
  have main:∀ r z,lookS Tryz.prog 72 (ksD l) (l.map (SV.d∘Def.d)) s false=some r→fieldE Tryz.prog (some r) (some (3,1))=some (.d (dI z), .no)→z=kindL l s→PCall Tryz.prog gl 62 [schD l,dS s] (dB (givenB l s)):=fun r z h1 h2 h3=>by
    refine PCall.by_ (md:=[]) Tryz.func62 rfl (by kernel_rfl) (n:=20) Tryz.ntmps62 (by simp) (by decide) rfl ?_
    simp
    refine⟨r,h1,?_⟩
    simp[h2,givenB, ← h3]
    repeat refine⟨DrawT.mk (by kernel_rfl),?_⟩
    refine CallT.p0 (p_isGround s) (by first | rfl | (simp;done)|(simp[h2,givenB, ← h3];done)) (by first | rfl | (simp;done)|(simp;rfl)|(simp[h2,givenB, ← h3];done)) ?_
    simp
    refine BrT.mk (fun g=>?_) (fun g=>?_)
    case refine_1=>simp[g]
    simp[g]
    refine BrT.dec (fun k2=>?_) (fun k2=>?_)
    case refine_1=>simp[k2]
    simp[k2]
  cases h:atD l s with
  | none=>exact main _ 0 (look_none h) (by kernel_rfl) (by rw[kindL,defL_none h];rfl)
  | some j=>exact main _ (defL l s).kind (look_some h) (by simp) rfl
set_option maxHeartbeats 2000000 in
theorem p_comesOut (l:List Def) (s:ByteArray):PCall Tryz.prog gl 109 [schD l,dS s] (dB (outB l s)):=by
  have main:∀ r z,lookS Tryz.prog 72 (ksD l) (l.map (SV.d∘Def.d)) s false=some r→fieldE Tryz.prog (some r) (some (3,1))=some (.d (dI z), .no)→z=kindL l s→PCall Tryz.prog gl 109 [schD l,dS s] (dB (outB l s)):=fun r z h1 h2 h3=>by
    refine PCall.by_ (md:=[]) Tryz.func109 rfl (by kernel_rfl) (n:=24) Tryz.ntmps109 (by simp) (by decide) rfl ?_
    simp
    refine⟨r,h1,?_⟩
    simp[h2,outB, ← h3]
    repeat refine⟨DrawT.mk (by kernel_rfl),?_⟩
    refine CallT.p0 (p_isGround s) (by first | rfl | (simp;done)|(simp[h2,outB, ← h3];done)) (by first | rfl | (simp;done)|(simp;rfl)|(simp[h2,outB, ← h3];done)) ?_
    simp
    refine BrT.mk (fun g=>?_) (fun g=>?_)
    case refine_1=>simp[g]
    simp[g]
    refine BrT.dec (fun k2=>?_) (fun k2=>?_)
    case refine_1=>simp[k2]
    simp[k2]
    refine BrT.dec (fun k1=>?_) (fun k1=>?_)
    case refine_1=>simp[k1]
    simp[k1]
  cases h:atD l s with
  | none=>exact main _ 0 (look_none h) (by kernel_rfl) (by rw[kindL,defL_none h];rfl)
  | some j=>exact main _ (defL l s).kind (look_some h) (by simp) rfl
theorem baseT_name {t:ByteArray}{l:List Typ}{b:Bool} (h:t≠noS):baseT (.mk t l b)=t:=by unfold baseT;rw[if_neg h]
theorem baseT_of {x:Typ}{r:List Typ}{b:Bool}:baseT (.mk noS (x::r) b)=baseT x:=by rw[baseT,if_pos rfl]
set_option maxHeartbeats 2000000 in
theorem p_baseOf (v:Typ) (d:Nat) (hv:typB v d=true):PCall Tryz.prog gl 63 [v.d] (dS (baseT v)):=by
  cases hv0:v with
  | mk t0 l0 b0 =>
  refine PCall.by_ (md:=[]) Tryz.func63 rfl (by kernel_rfl) (n:=12) Tryz.ntmps63 (by simp) (by decide) rfl ?_
  simp[Typ.cells]
  refine LoopT.round (fun E S=>∃ (t:ByteArray) (l:List Typ) (b:Bool) (e:Nat),E 1=some (.op 0 0)∧S.B 0=some ([.d (dS t), .d (typsD l), .d (dB b)])∧(baseT (.mk t l b)=baseT (.mk t0 l0 b0))∧(typB (.mk t l b) e=true)∧(1≤S.nx)) (fun E S=>match S.B 0 with | some [_, .d (.ps cs _),_]=>SizeOf.sizeOf cs | _=>0) ⟨t0,l0,b0,d,by simp;rw[← hv0];exact hv⟩ ?_
  rintro E S hk ⟨t,l,b,e,h1,hB0,hb,hd,hx⟩
  have hn:S.n=12:=by first | (simpa using hk.n)|(have hh:=hk.n;simp[Typ.cells] at hh;exact hh)
  have hg:S.gl=gl:=by first | (simpa using hk.gl)|(have hh:=hk.gl;simp[Typ.cells] at hh;exact hh)
  have hmd:S.md=[]:=by first | (simpa using hk.md)|(have hh:=hk.md;simp[Typ.cells] at hh;exact hh)
  simp[h1,hB0,hn]
  refine BrT.dec (fun c=>?_) (fun c=>?_)
  · subst c
    cases e with
    | zero=>simp[typB] at hd
    | succ e =>
      unfold typB at hd
      rw[if_pos rfl] at hd
      match l,hd with
      | [x],hd =>
        simp only at hd
        cases hx2:x with
        | mk t2 l2 b2 =>
        rw[hx2] at hd
        rw[hx2,baseT_of] at hb
        subst hx2
        simp[h1,hB0,hn,Typ.cells,typsCells]
        refine⟨⟨t2,l2,?_⟩,by omega⟩
        cases b2 with
        | false=>exact .inl ⟨⟨rfl,⟨rfl,rfl⟩,rfl⟩,hb,e,hd⟩
        | true=>exact .inr ⟨⟨rfl,⟨rfl,rfl⟩,rfl⟩,hb,e,hd⟩
      | [],hd=>simp at hd
      | x::y::r,hd=>simp at hd
  · simp[h1,hB0,hn,c]
    rw[← hb,baseT_name c]
def hereB (l:List Def) (s:ByteArray):Bool:=(atD l s).isSome || groundB s
theorem p_hereB (l:List Def) (s:ByteArray):PCall Tryz.prog gl 107 [schD l,dS s] (dB (hereB l s)):=p_isThere l s
def fldHere (l:List Def) (f:Fld):Bool:=hereB l (baseT f.ty)&&f.args.all fun a=>hereB l (baseT a.ty)
def wordHere (l:List Def) (d:Def) (w:ByteArray):Bool:=!(decide (d.kind=4) && !hereB l w)
def defHere (l:List Def) (d:Def):Bool:=d.flds.all (fldHere l)&&d.words.all (wordHere l d)
theorem fld_of {d:Def} (h:defB d=true):∀ f∈d.flds,typB f.ty 3=true∧∀ a∈f.args,argB a=true:=by
  intro f hf
  unfold defB at h
  rw[Bool.and_eq_true] at h
  have h:=h.2
  have one:∀ b,fldsB b d.flds=true→typB f.ty 3=true∧∀ a∈f.args,argB a=true:=by
    intro b h
    unfold fldsB at h
    have h2:=List.all_eq_true.1 (show d.flds.all (fldB b)=true by
      revert h;cases d.flds.all (fldB b)<;>simp) f hf
    unfold fldB at h2
    simp only[Bool.and_eq_true] at h2
    refine⟨h2.1.1,?_⟩
    have h3:=h2.1.2
    unfold argsB at h3
    intro a ha
    have h4:f.args.all argB=true:=by revert h3;cases f.args.all argB<;>simp
    exact List.all_eq_true.1 h4 a ha
  split at h
  · rw[Bool.and_eq_true] at h;exact one _ h.2
  · split at h
    · rw[Bool.and_eq_true] at h
      have:d.flds=[]:=List.eq_nil_of_length_eq_zero (by simpa using h.1)
      rw[this] at hf;cases hf
    · cases h
theorem typ_of {a:Arg} (h:argB a=true):typB a.ty 3=true:=by
  unfold argB at h
  revert h;cases typB a.ty 3<;>simp
set_option maxHeartbeats 4000000 in
theorem p_here1 (l:List Def) (d:Def) (hok:DefOk d) (hd:defB d=true):PCall Tryz.prog gl 106 [d.d, .pp [schD l] 0] (dB (defHere l d)):=by
  refine PCall.by_ (md:=[]) Tryz.func106 rfl (by kernel_rfl) (n:=55) Tryz.ntmps106 (by simp) (by decide) rfl ?_
  simp[Def.cells]
  have hfl:=hok.2.1.1
  have hwl:=hok.2.2.1
  refine LoopT.round (fun E S=>∃ (i:Nat),(i≤d.flds.length)∧E 1=some (.d (.pp [schD l] 0))∧E 2=some (.op 0 0)∧E 11=some (.d (fldsD d.flds))∧E 12=some (.d (dI d.flds.length))∧E 13=some (.d (dI i))∧S.B 0=some ([.d (dS d.name), .d (dI d.kind), .d (fldsD d.flds), .d (namesD d.words)])∧(allUp (fldHere l) d.flds i)∧(1≤S.nx)) (upTo 13 d.flds.length) ⟨0,by simp;exact allUp_zero _ _⟩ ?_
  rintro E S hk ⟨i,hi,h1,h2,h11,h12,h13,hB0,hp,hx⟩
  have hn:S.n=55:=by first | (simpa using hk.n)|(have hh:=hk.n;simp[Def.cells] at hh;exact hh)
  have hg:S.gl=gl:=by first | (simpa using hk.gl)|(have hh:=hk.gl;simp[Def.cells] at hh;exact hh)
  have hmd:S.md=[]:=by first | (simpa using hk.md)|(have hh:=hk.md;simp[Def.cells] at hh;exact hh)
  simp[h12,h13,hn,hg]
  have w:=wrap64 (n:=(i:Int)+1) (by omega) (by omega)
  refine BrT.dec (fun c=>?_) (fun c=>?_)
  · have hi2:i<d.flds.length:=by omega
    have hlen:=flds_len d.flds
    have hfit:i*5+5≤d.flds.length*5:=by omega
    have hN:=fld_of hd _ (List.getElem_mem hi2)
    have hO:=hok.2.1.2 _ (List.getElem_mem hi2)
    have bad:fldHere l d.flds[i]=false→defHere l d=false:=fun h=>by unfold defHere;rw[all_bad hi2 h];rfl
    have good:=all_take (p:=fldHere l) hi2 hp
    have hat:=flds_at d.flds hi2
    generalize hav:d.flds[i]=a at hN hO bad good hat
    have hab:fldHere l a=(hereB l (baseT a.ty)&&a.args.all fun a=>hereB l (baseT a.ty)):=rfl
    have hT:=p_baseOf (gl:=gl) a.ty 3 hN.1
    obtain⟨nm,args,ty⟩:=a
    obtain⟨hN1,hN2⟩:=hN
    have hal:=hO.2.1.1
    simp only at hN1 hN2 hal hab
    cases ty with
    | mk t lt b =>
    simp only[Fld.cells,Typ.cells] at hat
    simp[h1,h11,h13,hn,c,hlen,hfit,hat]
    repeat refine⟨DrawT.mk (by kernel_rfl),?_⟩
    refine CallT.p0 (hT) (by first | rfl | (simp;done)|(simp[hg];done)) (by first | rfl | (simp;done)|(simp;rfl)|(simp[Def.cells,h1,h2,h11,h12,h13,hB0,hn,hg,hmd,c,hi2,w,hlen,hfit,hat];done)) ?_
    simp[hn]
    repeat refine⟨DrawT.mk (by kernel_rfl),?_⟩
    refine CallT.p0 (p_hereB l (baseT (.mk t lt b))) (by first | rfl | (simp;done)|(simp[Def.cells,h1,h2,h11,h12,h13,hB0,hn,hg,hmd,c,hi2,w,hlen,hfit,hat];done)) (by first | rfl | (simp;done)|(simp;rfl)|(simp[Def.cells,h1,h2,h11,h12,h13,hB0,hn,hg,hmd,c,hi2,w,hlen,hfit,hat];done)) ?_
    simp[hn]
    refine BrT.mk (fun c1=>?_) (fun c1=>?_)
    case refine_2=>(have hq:=bad (by rw[hab,c1];rfl);simp[hn,c1,hq])
    simp[hn,c1]
    have o13:=h13
    refine LoopT.round (fun E S=>∃ (k:Nat),(k≤args.length)∧E 1=some (.d (.pp [schD l] 0))∧E 2=some (.op 0 0)∧E 11=some (.d (fldsD d.flds))∧E 12=some (.d (dI d.flds.length))∧E 13=some (.d (dI i))∧E 24=some (.d (argsD args))∧E 25=some (.d (dI args.length))∧E 26=some (.d (dI k))∧S.B 0=some ([.d (dS d.name), .d (dI d.kind), .d (fldsD d.flds), .d (namesD d.words)])∧(allUp (fun a:Arg=>hereB l (baseT a.ty)) args k)∧(1≤S.nx)) (upTo 26 args.length) ⟨0,by simp[h1,h2,h11,h12,h13,hB0];exact allUp_zero _ _⟩ ?_
    rintro E S hk ⟨k,hkl,h1,h2,h11,h12,h13,h24,h25,h26,hB0,hp2,hx⟩
    have hn:S.n=55:=by first | (simpa using hk.n)|(have hh:=hk.n;simp[hn] at hh;exact hh)
    have hg:S.gl=gl:=by first | (simpa using hk.gl)|(have hh:=hk.gl;simp[hg] at hh;exact hh)
    have hmd:S.md=[]:=by first | (simpa using hk.md)|(have hh:=hk.md;simp[hmd] at hh;exact hh)
    simp[h25,h26,hn,hg]
    have w2:=wrap64 (n:=(k:Int)+1) (by omega) (by omega)
    refine BrT.dec (fun c2=>?_) (fun c2=>?_)
    · have hk2:k<args.length:=by omega
      have alen:=args_len args
      have afit:k*10+10≤args.length*10:=by omega
      have bad2:=all_bad (p:=fun a:Arg=>hereB l (baseT a.ty)) hk2
      have good2:=all_take (p:=fun a:Arg=>hereB l (baseT a.ty)) hk2 hp2
      have aat:=args_at args hk2
      have hA:=typ_of (hN2 _ (List.getElem_mem hk2))
      generalize args[k]=x at bad2 good2 aat hA
      have hT2:=p_baseOf (gl:=gl) x.ty 3 hA
      obtain⟨xn,xt,xh,xe⟩:=x
      simp only at bad2 good2 hT2
      cases xt with
      | mk t2 l2 b2 =>
      cases xe with
      | mk =>
      simp only[Arg.cells,Typ.cells,Val.cells] at aat
      simp[h1,h24,h26,hn,c2,alen,afit,aat]
      repeat refine⟨DrawT.mk (by kernel_rfl),?_⟩
      refine CallT.p0 (hT2) (by first | rfl | (simp;done)|(simp[hg];done)) (by first | rfl | (simp;done)|(simp;rfl)|(simp[Def.cells,h1,h2,h11,h12,h13,hB0,hn,hg,hmd,c,hi2,w,hlen,hfit,hat,c1,h1,h2,h11,h12,h13,h24,h25,h26,hB0,hn,hg,hmd,c2,hk2,w2,alen,afit,aat];done)) ?_
      simp[hn]
      repeat refine⟨DrawT.mk (by kernel_rfl),?_⟩
      refine CallT.p0 (p_hereB l (baseT (.mk t2 l2 b2))) (by first | rfl | (simp;done)|(simp[Def.cells,h1,h2,h11,h12,h13,hB0,hn,hg,hmd,c,hi2,w,hlen,hfit,hat,c1,h1,h2,h11,h12,h13,h24,h25,h26,hB0,hn,hg,hmd,c2,hk2,w2,alen,afit,aat];done)) (by first | rfl | (simp;done)|(simp;rfl)|(simp[Def.cells,h1,h2,h11,h12,h13,hB0,hn,hg,hmd,c,hi2,w,hlen,hfit,hat,c1,h1,h2,h11,h12,h13,h24,h25,h26,hB0,hn,hg,hmd,c2,hk2,w2,alen,afit,aat];done)) ?_
      simp[hn]
      refine BrT.mk (fun c3=>?_) (fun c3=>?_)
      case refine_2=>(have hq:=bad (by rw[hab,bad2 c3,Bool.and_false]);simp[hn,c3,hq])
      simp[h1,h2,h11,h12,h13,h24,h25,h26,hB0,hn,w2,c3]
      exact⟨⟨k+1,hk2,by omega,good2 c3⟩,upTo_lt h26 (by simp) hk2⟩
    · have hk3:k=args.length:=by omega
      subst hk3
      have hq:=good (by rw[hab,c1,allUp_all hp2];rfl)
      simp[w,h1,h2,h11,h12,h13,hB0,hn,c2]
      exact⟨⟨i+1,hi2,by omega,hq⟩,upTo_lt o13 (by simp) hi2⟩
  · have hi3:i=d.flds.length:=by omega
    subst hi3
    have hF:=allUp_all hp
    simp[h2,hB0,hn,c]
    refine LoopT.round (fun E S=>∃ (k:Nat),(k≤d.words.length)∧E 1=some (.d (.pp [schD l] 0))∧E 2=some (.op 0 0)∧E 39=some (.d (namesD d.words))∧E 40=some (.d (dI d.words.length))∧E 41=some (.d (dI k))∧S.B 0=some ([.d (dS d.name), .d (dI d.kind), .d (fldsD d.flds), .d (namesD d.words)])∧(allUp (wordHere l d) d.words k)∧(1≤S.nx)) (upTo 41 d.words.length) ⟨0,by simp[h1,h2,hB0];exact allUp_zero _ _⟩ ?_
    rintro E S hk ⟨k,hkl,h1,h2,h39,h40,h41,hB0,hp2,hx⟩
    have hn:S.n=55:=by first | (simpa using hk.n)|(have hh:=hk.n;simp[hn] at hh;exact hh)
    have hg:S.gl=gl:=by first | (simpa using hk.gl)|(have hh:=hk.gl;simp[hg] at hh;exact hh)
    have hmd:S.md=[]:=by first | (simpa using hk.md)|(have hh:=hk.md;simp[hmd] at hh;exact hh)
    simp[h40,h41,hn,hg]
    have w2:=wrap64 (n:=(k:Int)+1) (by omega) (by omega)
    refine BrT.dec (fun c2=>?_) (fun c2=>?_)
    · have hk2:k<d.words.length:=by omega
      have bad2:=all_bad (p:=wordHere l d) hk2
      have good2:=all_take (p:=wordHere l d) hk2 hp2
      simp[h2,h39,h41,hB0,hn,c2]
      have hH:=p_hereB (gl:=gl) l (d.words[k])
      refine BrT.dec (fun k4=>?_) (fun k4=>?_)
      · simp[h1,hn,k4]
        repeat refine⟨DrawT.mk (by kernel_rfl),?_⟩
        refine CallT.p0 (hH) (by first | rfl | (simp;done)|(simp[hg];done)) (by first | rfl | (simp;done)|(simp;rfl)|(simp[Def.cells,h1,h2,h11,h12,h13,hB0,hn,hg,hmd,c,h1,h2,h39,h40,h41,hB0,hn,hg,hmd,c2,hk2,w2,k4];done)) ?_
        simp[hn]
        refine BrT.mk (fun c3=>?_) (fun c3=>?_)
        case refine_2=>(have hb:defHere l d=false:=(by unfold defHere;rw[bad2 (by simp[wordHere,k4,c3]),Bool.and_false]);simp[hn,c3,hb])
        simp[h1,h2,h39,h40,h41,hB0,hn,w2,k4,c3]
        exact⟨⟨k+1,hk2,by omega,good2 (by simp[wordHere,k4,c3])⟩,upTo_lt h41 (by simp) hk2⟩
      · simp[h1,h2,h39,h40,h41,hB0,hn,w2,k4]
        exact⟨⟨k+1,hk2,by omega,good2 (by simp[wordHere,k4])⟩,upTo_lt h41 (by simp) hk2⟩
    · have hk3:k=d.words.length:=by omega
      subst hk3
      have hb:defHere l d=true:=by unfold defHere;rw[hF,allUp_all hp2];rfl
      simp[hn,c2,hb]
set_option maxHeartbeats 2000000 in
theorem p_allThere (l:List Def) (hok:∀ d∈l,DefOk d) (hd:∀ d∈l,defB d=true):PCall Tryz.prog gl 48 [schD l] (dB (l.all (defHere l))):=by
  have h:=p_eachDef (gl:=gl) l 106 [.pp [schD l] 0] (defHere l) fun d hm=>p_here1 l d (hok d hm) (hd d hm)
  refine PCall.by_ (md:=[]) Tryz.func48 rfl (by kernel_rfl) (n:=6) Tryz.ntmps48 (by simp) (by decide) rfl ?_
  simp
  refine CallT.l (LCall.ofP (k:=9) h (by simp)) rfl ?_
  simp
def placeB (l:List Def) (kind:Int) (s:ByteArray):Bool:=!(decide (kind=3) && !givenB l s || decide (kind=1) && !outB l s)
def fldPlaced (l:List Def) (d:Def) (f:Fld):Bool:=placeB l d.kind (baseT f.ty)&&f.args.all fun a=>givenB l (baseT a.ty)
def wordPlaced (l:List Def) (d:Def) (w:ByteArray):Bool:=!(decide (d.kind=4) && !decide (kindL l w=1))
def defPlaced (l:List Def) (d:Def):Bool:=d.flds.all (fldPlaced l d)&&d.words.all (wordPlaced l d)
set_option maxHeartbeats 4000000 in
theorem p_placed1 (l:List Def) (d:Def) (hok:DefOk d) (hd:defB d=true):PCall Tryz.prog gl 108 [d.d, .pp [schD l] 0] (dB (defPlaced l d)):=by
  refine PCall.by_ (md:=[]) Tryz.func108 rfl (by kernel_rfl) (n:=73) Tryz.ntmps108 (by simp) (by decide) rfl ?_
  simp[Def.cells]
  have hfl:=hok.2.1.1
  have hwl:=hok.2.2.1
  refine LoopT.round (fun E S=>∃ (i:Nat),(i≤d.flds.length)∧E 1=some (.d (.pp [schD l] 0))∧E 2=some (.op 0 0)∧E 12=some (.d (fldsD d.flds))∧E 13=some (.d (dI d.flds.length))∧E 14=some (.d (dI i))∧S.B 0=some ([.d (dS d.name), .d (dI d.kind), .d (fldsD d.flds), .d (namesD d.words)])∧(allUp (fldPlaced l d) d.flds i)∧(1≤S.nx)) (upTo 14 d.flds.length) ⟨0,by simp;exact allUp_zero _ _⟩ ?_
  rintro E S hk ⟨i,hi,h1,h2,h12,h13,h14,hB0,hp,hx⟩
  have hn:S.n=73:=by first | (simpa using hk.n)|(have hh:=hk.n;simp[Def.cells] at hh;exact hh)
  have hg:S.gl=gl:=by first | (simpa using hk.gl)|(have hh:=hk.gl;simp[Def.cells] at hh;exact hh)
  have hmd:S.md=[]:=by first | (simpa using hk.md)|(have hh:=hk.md;simp[Def.cells] at hh;exact hh)
  simp[h13,h14,hn,hg]
  have w:=wrap64 (n:=(i:Int)+1) (by omega) (by omega)
  refine BrT.dec (fun c=>?_) (fun c=>?_)
  · have hi2:i<d.flds.length:=by omega
    have hlen:=flds_len d.flds
    have hfit:i*5+5≤d.flds.length*5:=by omega
    have hN:=fld_of hd _ (List.getElem_mem hi2)
    have hO:=hok.2.1.2 _ (List.getElem_mem hi2)
    have bad:fldPlaced l d d.flds[i]=false→defPlaced l d=false:=fun h=>by unfold defPlaced;rw[all_bad hi2 h];rfl
    have good:=all_take (p:=fldPlaced l d) hi2 hp
    have hat:=flds_at d.flds hi2
    generalize hav:d.flds[i]=a at hN hO bad good hat
    have hab:fldPlaced l d a=(placeB l d.kind (baseT a.ty)&&a.args.all fun a=>givenB l (baseT a.ty)):=rfl
    have hT:=p_baseOf (gl:=gl) a.ty 3 hN.1
    obtain⟨nm,args,ty⟩:=a
    obtain⟨hN1,hN2⟩:=hN
    have hal:=hO.2.1.1
    simp only at hN1 hN2 hal hab
    cases ty with
    | mk t lt b =>
    simp only[Fld.cells,Typ.cells] at hat
    simp[h12,h14,hn,c,hlen,hfit,hat]
    repeat refine⟨DrawT.mk (by kernel_rfl),?_⟩
    refine CallT.p0 (hT) (by first | rfl | (simp;done)|(simp[hg];done)) (by first | rfl | (simp;done)|(simp;rfl)|(simp[Def.cells,h1,h2,h12,h13,h14,hB0,hn,hg,hmd,c,hi2,w,hlen,hfit,hat];done)) ?_
    simp[h2,hB0,hn]
    have hP:placeB l d.kind (baseT (.mk t lt b))=false→defPlaced l d=false:=fun h=>bad (by rw[hab,h];rfl)
    refine BrT.dec (fun k3=>?_) (fun k3=>?_)
    case' refine_1 =>
      simp[h1,hn,k3]
      repeat refine⟨DrawT.mk (by kernel_rfl),?_⟩
      refine CallT.p0 (p_isGivenIn l (baseT (.mk t lt b))) (by first | rfl | (simp;done)|(simp[Def.cells,h1,h2,h12,h13,h14,hB0,hn,hg,hmd,c,hi2,w,hlen,hfit,hat,k3];done)) (by first | rfl | (simp;done)|(simp;rfl)|(simp[Def.cells,h1,h2,h12,h13,h14,hB0,hn,hg,hmd,c,hi2,w,hlen,hfit,hat,k3];done)) ?_
      simp[hn]
      refine BrT.mk (fun c0=>?_) (fun c0=>?_)
      case refine_2=>(have hq:=hP (by simp[placeB,k3,c0]);simp[hn,c0,hq])
      have c1:placeB l d.kind (baseT (.mk t lt b))=true:=by simp[placeB,k3,c0]
      simp[h2,hB0,hn,k3,c0]
    case' refine_2 =>
      simp[h2,hB0,hn,k3]
      refine BrT.dec (fun k1=>?_) (fun k1=>?_)
      case' refine_1 =>
        simp[h1,hn,k1]
        repeat refine⟨DrawT.mk (by kernel_rfl),?_⟩
        refine CallT.p0 (p_comesOut l (baseT (.mk t lt b))) (by first | rfl | (simp;done)|(simp[Def.cells,h1,h2,h12,h13,h14,hB0,hn,hg,hmd,c,hi2,w,hlen,hfit,hat,k3,k1];done)) (by first | rfl | (simp;done)|(simp;rfl)|(simp[Def.cells,h1,h2,h12,h13,h14,hB0,hn,hg,hmd,c,hi2,w,hlen,hfit,hat,k3,k1];done)) ?_
        simp[hn]
        refine BrT.mk (fun c0=>?_) (fun c0=>?_)
        case refine_2=>(have hq:=hP (by simp[placeB,k1,c0]);simp[hn,c0,hq])
        have c1:placeB l d.kind (baseT (.mk t lt b))=true:=by simp[placeB,k1,c0]
        simp[hn,c0]
      case' refine_2 =>
        have c1:placeB l d.kind (baseT (.mk t lt b))=true:=by simp[placeB,k1,k3]
        simp[hn,k1]
    all_goals
      have o14:=h14
      refine LoopT.round (fun E S=>∃ (k:Nat),(k≤args.length)∧E 1=some (.d (.pp [schD l] 0))∧E 2=some (.op 0 0)∧E 12=some (.d (fldsD d.flds))∧E 13=some (.d (dI d.flds.length))∧E 14=some (.d (dI i))∧E 42=some (.d (argsD args))∧E 43=some (.d (dI args.length))∧E 44=some (.d (dI k))∧S.B 0=some ([.d (dS d.name), .d (dI d.kind), .d (fldsD d.flds), .d (namesD d.words)])∧(allUp (fun a:Arg=>givenB l (baseT a.ty)) args k)∧(1≤S.nx)) (upTo 44 args.length) ⟨0,by simp[h1,h2,h12,h13,h14,hB0,k3];exact allUp_zero _ _⟩ ?_
      rintro E S hk ⟨k,hkl,h1,h2,h12,h13,h14,h42,h43,h44,hB0,hp2,hx⟩
      have hn:S.n=73:=by first | (simpa using hk.n)|(have hh:=hk.n;simp[hn] at hh;exact hh)
      have hg:S.gl=gl:=by first | (simpa using hk.gl)|(have hh:=hk.gl;simp[hg] at hh;exact hh)
      have hmd:S.md=[]:=by first | (simpa using hk.md)|(have hh:=hk.md;simp[hmd] at hh;exact hh)
      simp[k3,h43,h44,hn,hg]
      have w2:=wrap64 (n:=(k:Int)+1) (by omega) (by omega)
      refine BrT.dec (fun c2=>?_) (fun c2=>?_)
      · have hk2:k<args.length:=by omega
        have alen:=args_len args
        have afit:k*10+10≤args.length*10:=by omega
        have bad2:=all_bad (p:=fun a:Arg=>givenB l (baseT a.ty)) hk2
        have good2:=all_take (p:=fun a:Arg=>givenB l (baseT a.ty)) hk2 hp2
        have aat:=args_at args hk2
        have hA:=typ_of (hN2 _ (List.getElem_mem hk2))
        generalize args[k]=x at bad2 good2 aat hA
        have hT2:=p_baseOf (gl:=gl) x.ty 3 hA
        obtain⟨xn,xt,xh,xe⟩:=x
        simp only at bad2 good2 hT2
        cases xt with
        | mk t2 l2 b2 =>
        cases xe with
        | mk =>
        simp only[Arg.cells,Typ.cells,Val.cells] at aat
        simp[h1,h42,h44,hn,c2,alen,afit,aat]
        repeat refine⟨DrawT.mk (by kernel_rfl),?_⟩
        refine CallT.p0 (hT2) (by first | rfl | (simp;done)|(simp[hg];done)) (by first | rfl | (simp;done)|(simp;rfl)|(simp[Def.cells,h1,h2,h12,h13,h14,hB0,hn,hg,hmd,c,hi2,w,hlen,hfit,hat,k3,h1,h2,h12,h13,h14,h42,h43,h44,hB0,hn,hg,hmd,c2,hk2,w2,alen,afit,aat];done)) ?_
        simp[hn]
        repeat refine⟨DrawT.mk (by kernel_rfl),?_⟩
        refine CallT.p0 (p_isGivenIn l (baseT (.mk t2 l2 b2))) (by first | rfl | (simp;done)|(simp[Def.cells,h1,h2,h12,h13,h14,hB0,hn,hg,hmd,c,hi2,w,hlen,hfit,hat,k3,h1,h2,h12,h13,h14,h42,h43,h44,hB0,hn,hg,hmd,c2,hk2,w2,alen,afit,aat];done)) (by first | rfl | (simp;done)|(simp;rfl)|(simp[Def.cells,h1,h2,h12,h13,h14,hB0,hn,hg,hmd,c,hi2,w,hlen,hfit,hat,k3,h1,h2,h12,h13,h14,h42,h43,h44,hB0,hn,hg,hmd,c2,hk2,w2,alen,afit,aat];done)) ?_
        simp[hn]
        refine BrT.mk (fun c3=>?_) (fun c3=>?_)
        case refine_2=>(have hq:=bad (by rw[hab,bad2 c3,Bool.and_false]);simp[hn,c3,hq])
        simp[k3,h1,h2,h12,h13,h14,h42,h43,h44,hB0,hn,w2,c3]
        exact⟨⟨k+1,hk2,by omega,good2 c3⟩,upTo_lt h44 (by simp) hk2⟩
      · have hk3:k=args.length:=by omega
        subst hk3
        have hq:=good (by rw[hab,c1,allUp_all hp2];rfl)
        simp[w,k3,h1,h2,h12,h13,h14,hB0,hn,c2]
        refine⟨⟨i+1,hi2,by omega,?_⟩,upTo_lt o14 (by simp) hi2⟩
        first | exact hq | exact⟨k1,hq⟩ | exact⟨k3,hq⟩
  · have hi3:i=d.flds.length:=by omega
    subst hi3
    have hF:=allUp_all hp
    simp[h2,hB0,hn,c]
    refine LoopT.round (fun E S=>∃ (k:Nat),(k≤d.words.length)∧E 1=some (.d (.pp [schD l] 0))∧E 2=some (.op 0 0)∧E 57=some (.d (namesD d.words))∧E 58=some (.d (dI d.words.length))∧E 59=some (.d (dI k))∧S.B 0=some ([.d (dS d.name), .d (dI d.kind), .d (fldsD d.flds), .d (namesD d.words)])∧(allUp (wordPlaced l d) d.words k)∧(1≤S.nx)) (upTo 59 d.words.length) ⟨0,by simp[h1,h2,hB0];exact allUp_zero _ _⟩ ?_
    rintro E S hk ⟨k,hkl,h1,h2,h57,h58,h59,hB0,hp2,hx⟩
    have hn:S.n=73:=by first | (simpa using hk.n)|(have hh:=hk.n;simp[hn] at hh;exact hh)
    have hg:S.gl=gl:=by first | (simpa using hk.gl)|(have hh:=hk.gl;simp[hg] at hh;exact hh)
    have hmd:S.md=[]:=by first | (simpa using hk.md)|(have hh:=hk.md;simp[hmd] at hh;exact hh)
    simp[h58,h59,hn,hg]
    have w2:=wrap64 (n:=(k:Int)+1) (by omega) (by omega)
    refine BrT.dec (fun c2=>?_) (fun c2=>?_)
    · have hk2:k<d.words.length:=by omega
      have bad2:=all_bad (p:=wordPlaced l d) hk2
      have good2:=all_take (p:=wordPlaced l d) hk2 hp2
      simp[h2,h57,h59,hB0,hn,c2]
      have hH:=p_isObject (gl:=gl) l (d.words[k])
      refine BrT.dec (fun k4=>?_) (fun k4=>?_)
      · simp[h1,hn,k4]
        repeat refine⟨DrawT.mk (by kernel_rfl),?_⟩
        refine CallT.p0 (hH) (by first | rfl | (simp;done)|(simp[hg];done)) (by first | rfl | (simp;done)|(simp;rfl)|(simp[Def.cells,h1,h2,h12,h13,h14,hB0,hn,hg,hmd,c,h1,h2,h57,h58,h59,hB0,hn,hg,hmd,c2,hk2,w2,k4];done)) ?_
        simp[hn]
        refine BrT.mk (fun c3=>?_) (fun c3=>?_)
        case refine_2=>(have hb:defPlaced l d=false:=(by unfold defPlaced;rw[bad2 (by simp[wordPlaced,k4,c3]),Bool.and_false]);simp[hn,c3,hb])
        simp[h1,h2,h57,h58,h59,hB0,hn,w2,k4,c3]
        exact⟨⟨k+1,hk2,by omega,good2 (by simp[wordPlaced,k4,c3])⟩,upTo_lt h59 (by simp) hk2⟩
      · simp[h1,h2,h57,h58,h59,hB0,hn,w2,k4]
        exact⟨⟨k+1,hk2,by omega,good2 (by simp[wordPlaced,k4])⟩,upTo_lt h59 (by simp) hk2⟩
    · have hk3:k=d.words.length:=by omega
      subst hk3
      have hb:defPlaced l d=true:=by unfold defPlaced;rw[hF,allUp_all hp2];rfl
      simp[hn,c2,hb]
set_option maxHeartbeats 2000000 in
theorem p_allPlaced (l:List Def) (hok:∀ d∈l,DefOk d) (hd:∀ d∈l,defB d=true):PCall Tryz.prog gl 49 [schD l] (dB (l.all (defPlaced l))):=by
  have h:=p_eachDef (gl:=gl) l 108 [.pp [schD l] 0] (defPlaced l) fun d hm=>p_placed1 l d (hok d hm) (hd d hm)
  refine PCall.by_ (md:=[]) Tryz.func49 rfl (by kernel_rfl) (n:=6) Tryz.ntmps49 (by simp) (by decide) rfl ?_
  simp
  refine CallT.l (LCall.ofP (k:=9) h (by simp)) rfl ?_
  simp
end Go.Proofs.YtlmpjblmmpddeaaGreat
