/- ShFacts and what follows it, one behind another. -/
import Derived.Test.YtbmoiajdknejnaaGreatMg4
import Derived.Test.YtbmoiajdknejnaaGreatProg
set_option linter.unusedVariables false
set_option linter.unusedSimpArgs false
set_option maxRecDepth 100000
namespace Go.Proofs.YtbmoiajdknejnaaGreat
open Go.Sh
@[simp] theorem szOf_3:szOf Tryz.prog 3=some (1):=by kernel_rfl
@[simp] theorem known_3:known Tryz.prog 3=true:=by kernel_rfl
@[simp] theorem intKindOf_3:intKindOf Tryz.prog 3=some .i64:=by kernel_rfl
@[simp] theorem loadG_3 {α:Type} (mk:List α→α) (cs:List α) (off:Nat):loadG mk Tryz.prog 3 cs off=cs[off]?:=by kernel_rfl
@[simp] theorem szOf_4:szOf Tryz.prog 4=some (1):=by kernel_rfl
@[simp] theorem loadG_4 {α:Type} (mk:List α→α) (cs:List α) (off:Nat):loadG mk Tryz.prog 4 cs off=cs[off]?:=by kernel_rfl
@[simp] theorem known_5:known Tryz.prog 5=true:=by kernel_rfl
@[simp] theorem intKindOf_5:intKindOf Tryz.prog 5=some .u8:=by kernel_rfl
@[simp] theorem loadG_5 {α:Type} (mk:List α→α) (cs:List α) (off:Nat):loadG mk Tryz.prog 5 cs off=cs[off]?:=by kernel_rfl
@[simp] theorem szOf_9:szOf Tryz.prog 9=some (1):=by kernel_rfl
@[simp] theorem isString_9:isString Tryz.prog 9=true:=by kernel_rfl
@[simp] theorem loadG_9 {α:Type} (mk:List α→α) (cs:List α) (off:Nat):loadG mk Tryz.prog 9 cs off=cs[off]?:=by kernel_rfl
@[simp] theorem isSlice_22:isSlice Tryz.prog 22=true:=by kernel_rfl
@[simp] theorem bytesOf_22:bytesOf Tryz.prog 22=some (5):=by kernel_rfl
@[simp] theorem elemOf_22:Sh.elemOf Tryz.prog 22=some (5,1):=by kernel_rfl
@[simp] theorem makeOf_22:makeOf Tryz.prog 22=some ([.d (.v (.int .u8 0))],1,1):=by kernel_rfl
@[simp] theorem zerosOf_22:zerosOf Tryz.prog 22=some ([.v (.int .u8 0)],1):=by kernel_rfl
@[simp] theorem loadG_22 {α:Type} (mk:List α→α) (cs:List α) (off:Nat):loadG mk Tryz.prog 22 cs off=cs[off]?:=by kernel_rfl
@[simp] theorem isSlice_23:isSlice Tryz.prog 23=true:=by kernel_rfl
@[simp] theorem elemOf_23:Sh.elemOf Tryz.prog 23=some (29,4):=by kernel_rfl
@[simp] theorem appOf_23:appOf Tryz.prog 23=some (29,4,72):=by kernel_rfl
@[simp] theorem makeOf_23:makeOf Tryz.prog 23=some ([.d (.v (.string ⟨#[]⟩)), .d (.v (.int .i64 0)), .fl [] 0, .fl [] 0],4,72):=by kernel_rfl
@[simp] theorem zerosOf_23:zerosOf Tryz.prog 23=some ([.v (.string ⟨#[]⟩), .v (.int .i64 0), .ps [] 0, .ps [] 0],4):=by kernel_rfl
@[simp] theorem szOf_26:szOf Tryz.prog 26=some (1):=by kernel_rfl
@[simp] theorem isSlice_26:isSlice Tryz.prog 26=true:=by kernel_rfl
@[simp] theorem elemOf_26:Sh.elemOf Tryz.prog 26=some (194,5):=by kernel_rfl
@[simp] theorem appOf_26:appOf Tryz.prog 26=some (194,5,88):=by kernel_rfl
@[simp] theorem makeOf_26:makeOf Tryz.prog 26=some ([.d (.v (.string ⟨#[]⟩)), .fl [] 0, .d (.v (.string ⟨#[]⟩)), .fl [] 0, .d (.v (.bool false))],5,88):=by kernel_rfl
@[simp] theorem zerosOf_26:zerosOf Tryz.prog 26=some ([.v (.string ⟨#[]⟩), .ps [] 0, .v (.string ⟨#[]⟩), .ps [] 0, .v (.bool false)],5):=by kernel_rfl
@[simp] theorem loadG_26 {α:Type} (mk:List α→α) (cs:List α) (off:Nat):loadG mk Tryz.prog 26 cs off=cs[off]?:=by kernel_rfl
@[simp] theorem szOf_27:szOf Tryz.prog 27=some (1):=by kernel_rfl
@[simp] theorem isSlice_27:isSlice Tryz.prog 27=true:=by kernel_rfl
@[simp] theorem elemOf_27:Sh.elemOf Tryz.prog 27=some (9,1):=by kernel_rfl
@[simp] theorem appOf_27:appOf Tryz.prog 27=some (9,1,16):=by kernel_rfl
@[simp] theorem makeOf_27:makeOf Tryz.prog 27=some ([.d (.v (.string ⟨#[]⟩))],1,16):=by kernel_rfl
@[simp] theorem zerosOf_27:zerosOf Tryz.prog 27=some ([.v (.string ⟨#[]⟩)],1):=by kernel_rfl
@[simp] theorem loadG_27 {α:Type} (mk:List α→α) (cs:List α) (off:Nat):loadG mk Tryz.prog 27 cs off=cs[off]?:=by kernel_rfl
@[simp] theorem szOf_29:szOf Tryz.prog 29=some (4):=by kernel_rfl
@[simp] theorem zeroCellsOf_29:zeroCellsOf Tryz.prog 29=some [.d (.v (.string ⟨#[]⟩)), .d (.v (.int .i64 0)), .fl [] 0, .fl [] 0]:=by kernel_rfl
@[simp] theorem fieldOf0_29:fieldOf Tryz.prog 29 0=some 0:=by kernel_rfl
@[simp] theorem placeOf0_29:placeOf Tryz.prog 29 0=some (0,1):=by kernel_rfl
@[simp] theorem fieldOf1_29:fieldOf Tryz.prog 29 1=some 1:=by kernel_rfl
@[simp] theorem fieldTy1_29:fieldTy Tryz.prog 29 1=some (3,1):=by kernel_rfl
@[simp] theorem placeOf1_29:placeOf Tryz.prog 29 1=some (1,1):=by kernel_rfl
@[simp] theorem fieldOf2_29:fieldOf Tryz.prog 29 2=some 2:=by kernel_rfl
@[simp] theorem fieldTy2_29:fieldTy Tryz.prog 29 2=some (26,2):=by kernel_rfl
@[simp] theorem placeOf2_29:placeOf Tryz.prog 29 2=some (2,1):=by kernel_rfl
@[simp] theorem fieldOf3_29:fieldOf Tryz.prog 29 3=some 3:=by kernel_rfl
@[simp] theorem placeOf3_29:placeOf Tryz.prog 29 3=some (3,1):=by kernel_rfl
@[simp] theorem sized_29:sized Tryz.prog 29=true:=by kernel_rfl
@[simp] theorem loadG_29 {α:Type} (mk:List α→α) (cs:List α) (off:Nat):loadG mk Tryz.prog 29 cs off=if off+4≤cs.length then some (mk ((cs.drop off).take 4)) else none:=by kernel_rfl
@[simp] theorem szOf_31:szOf Tryz.prog 31=some (1):=by kernel_rfl
@[simp] theorem isSlice_31:isSlice Tryz.prog 31=true:=by kernel_rfl
@[simp] theorem elemOf_31:Sh.elemOf Tryz.prog 31=some (33,3):=by kernel_rfl
@[simp] theorem makeOf_31:makeOf Tryz.prog 31=some ([.d (.v (.string ⟨#[]⟩)), .fl [] 0, .d (.v (.bool false))],3,48):=by kernel_rfl
@[simp] theorem zerosOf_31:zerosOf Tryz.prog 31=some ([.v (.string ⟨#[]⟩), .ps [] 0, .v (.bool false)],3):=by kernel_rfl
@[simp] theorem loadG_31 {α:Type} (mk:List α→α) (cs:List α) (off:Nat):loadG mk Tryz.prog 31 cs off=cs[off]?:=by kernel_rfl
@[simp] theorem szOf_33:szOf Tryz.prog 33=some (3):=by kernel_rfl
@[simp] theorem zeroCellsOf_33:zeroCellsOf Tryz.prog 33=some [.d (.v (.string ⟨#[]⟩)), .fl [] 0, .d (.v (.bool false))]:=by kernel_rfl
@[simp] theorem fieldOf0_33:fieldOf Tryz.prog 33 0=some 0:=by kernel_rfl
@[simp] theorem placeOf0_33:placeOf Tryz.prog 33 0=some (0,1):=by kernel_rfl
@[simp] theorem fieldOf1_33:fieldOf Tryz.prog 33 1=some 1:=by kernel_rfl
@[simp] theorem placeOf1_33:placeOf Tryz.prog 33 1=some (1,1):=by kernel_rfl
@[simp] theorem fieldOf2_33:fieldOf Tryz.prog 33 2=some 2:=by kernel_rfl
@[simp] theorem placeOf2_33:placeOf Tryz.prog 33 2=some (2,1):=by kernel_rfl
@[simp] theorem sized_33:sized Tryz.prog 33=true:=by kernel_rfl
@[simp] theorem loadG_33 {α:Type} (mk:List α→α) (cs:List α) (off:Nat):loadG mk Tryz.prog 33 cs off=if off+3≤cs.length then some (mk ((cs.drop off).take 3)) else none:=by kernel_rfl
@[simp] theorem szOf_35:szOf Tryz.prog 35=some (1):=by kernel_rfl
@[simp] theorem isSlice_35:isSlice Tryz.prog 35=true:=by kernel_rfl
@[simp] theorem elemOf_35:Sh.elemOf Tryz.prog 35=some (37,5):=by kernel_rfl
@[simp] theorem makeOf_35:makeOf Tryz.prog 35=some ([.d (.v (.int .i64 0)), .d (.v (.int .i64 0)), .d (.v (.string ⟨#[]⟩)), .fl [] 0, .fl [] 0],5,80):=by kernel_rfl
@[simp] theorem zerosOf_35:zerosOf Tryz.prog 35=some ([.v (.int .i64 0), .v (.int .i64 0), .v (.string ⟨#[]⟩), .ps [] 0, .ps [] 0],5):=by kernel_rfl
@[simp] theorem loadG_35 {α:Type} (mk:List α→α) (cs:List α) (off:Nat):loadG mk Tryz.prog 35 cs off=cs[off]?:=by kernel_rfl
@[simp] theorem szOf_37:szOf Tryz.prog 37=some (5):=by kernel_rfl
@[simp] theorem zeroCellsOf_37:zeroCellsOf Tryz.prog 37=some [.d (.v (.int .i64 0)), .d (.v (.int .i64 0)), .d (.v (.string ⟨#[]⟩)), .fl [] 0, .fl [] 0]:=by kernel_rfl
@[simp] theorem fieldOf0_37:fieldOf Tryz.prog 37 0=some 0:=by kernel_rfl
@[simp] theorem placeOf0_37:placeOf Tryz.prog 37 0=some (0,1):=by kernel_rfl
@[simp] theorem fieldOf1_37:fieldOf Tryz.prog 37 1=some 1:=by kernel_rfl
@[simp] theorem fieldOf2_37:fieldOf Tryz.prog 37 2=some 2:=by kernel_rfl
@[simp] theorem placeOf2_37:placeOf Tryz.prog 37 2=some (2,1):=by kernel_rfl
@[simp] theorem fieldOf3_37:fieldOf Tryz.prog 37 3=some 3:=by kernel_rfl
@[simp] theorem fieldOf4_37:fieldOf Tryz.prog 37 4=some 4:=by kernel_rfl
@[simp] theorem sized_37:sized Tryz.prog 37=true:=by kernel_rfl
@[simp] theorem loadG_37 {α:Type} (mk:List α→α) (cs:List α) (off:Nat):loadG mk Tryz.prog 37 cs off=if off+5≤cs.length then some (mk ((cs.drop off).take 5)) else none:=by kernel_rfl
@[simp] theorem isMap_98:isMap Tryz.prog 98=true:=by kernel_rfl
@[simp] theorem mapOf_98:Sh.mapOf Tryz.prog 98=some 29:=by kernel_rfl
@[simp] theorem loadG_98 {α:Type} (mk:List α→α) (cs:List α) (off:Nat):loadG mk Tryz.prog 98 cs off=cs[off]?:=by kernel_rfl
@[simp] theorem szOf_109:szOf Tryz.prog 109=some (1):=by kernel_rfl
@[simp] theorem zeroCellsOf_109:zeroCellsOf Tryz.prog 109=some [.d (.v (.nilFunc))]:=by kernel_rfl
@[simp] theorem loadG_109 {α:Type} (mk:List α→α) (cs:List α) (off:Nat):loadG mk Tryz.prog 109 cs off=cs[off]?:=by kernel_rfl
@[simp] theorem szOf_180:szOf Tryz.prog 180=some (1):=by kernel_rfl
@[simp] theorem isSlice_180:isSlice Tryz.prog 180=true:=by kernel_rfl
@[simp] theorem elemOf_180:Sh.elemOf Tryz.prog 180=some (181,10):=by kernel_rfl
@[simp] theorem appOf_180:appOf Tryz.prog 180=some (181,10,152):=by kernel_rfl
@[simp] theorem makeOf_180:makeOf Tryz.prog 180=some ([.d (.v (.string ⟨#[]⟩)), .d (.v (.string ⟨#[]⟩)), .fl [] 0, .d (.v (.bool false)), .d (.v (.bool false)), .d (.v (.int .i64 0)), .d (.v (.int .i64 0)), .d (.v (.string ⟨#[]⟩)), .fl [] 0, .fl [] 0],10,152):=by kernel_rfl
@[simp] theorem zerosOf_180:zerosOf Tryz.prog 180=some ([.v (.string ⟨#[]⟩), .v (.string ⟨#[]⟩), .ps [] 0, .v (.bool false), .v (.bool false), .v (.int .i64 0), .v (.int .i64 0), .v (.string ⟨#[]⟩), .ps [] 0, .ps [] 0],10):=by kernel_rfl
@[simp] theorem loadG_180 {α:Type} (mk:List α→α) (cs:List α) (off:Nat):loadG mk Tryz.prog 180 cs off=cs[off]?:=by kernel_rfl
@[simp] theorem szOf_181:szOf Tryz.prog 181=some (10):=by kernel_rfl
@[simp] theorem zeroCellsOf_181:zeroCellsOf Tryz.prog 181=some [.d (.v (.string ⟨#[]⟩)), .d (.v (.string ⟨#[]⟩)), .fl [] 0, .d (.v (.bool false)), .d (.v (.bool false)), .d (.v (.int .i64 0)), .d (.v (.int .i64 0)), .d (.v (.string ⟨#[]⟩)), .fl [] 0, .fl [] 0]:=by kernel_rfl
@[simp] theorem fieldOf0_181:fieldOf Tryz.prog 181 0=some 0:=by kernel_rfl
@[simp] theorem placeOf0_181:placeOf Tryz.prog 181 0=some (0,1):=by kernel_rfl
@[simp] theorem fieldOf1_181:fieldOf Tryz.prog 181 1=some 1:=by kernel_rfl
@[simp] theorem placeOf1_181:placeOf Tryz.prog 181 1=some (1,3):=by kernel_rfl
@[simp] theorem fieldOf2_181:fieldOf Tryz.prog 181 2=some 4:=by kernel_rfl
@[simp] theorem placeOf2_181:placeOf Tryz.prog 181 2=some (4,1):=by kernel_rfl
@[simp] theorem fieldOf3_181:fieldOf Tryz.prog 181 3=some 5:=by kernel_rfl
@[simp] theorem placeOf3_181:placeOf Tryz.prog 181 3=some (5,5):=by kernel_rfl
@[simp] theorem sized_181:sized Tryz.prog 181=true:=by kernel_rfl
@[simp] theorem loadG_181 {α:Type} (mk:List α→α) (cs:List α) (off:Nat):loadG mk Tryz.prog 181 cs off=if off+10≤cs.length then some (mk ((cs.drop off).take 10)) else none:=by kernel_rfl
@[simp] theorem isSlice_192:isSlice Tryz.prog 192=true:=by kernel_rfl
@[simp] theorem elemOf_192:Sh.elemOf Tryz.prog 192=some (3,1):=by kernel_rfl
@[simp] theorem makeOf_192:makeOf Tryz.prog 192=some ([.d (.v (.int .i64 0))],1,8):=by kernel_rfl
@[simp] theorem zerosOf_192:zerosOf Tryz.prog 192=some ([.v (.int .i64 0)],1):=by kernel_rfl
@[simp] theorem szOf_194:szOf Tryz.prog 194=some (5):=by kernel_rfl
@[simp] theorem zeroCellsOf_194:zeroCellsOf Tryz.prog 194=some [.d (.v (.string ⟨#[]⟩)), .fl [] 0, .d (.v (.string ⟨#[]⟩)), .fl [] 0, .d (.v (.bool false))]:=by kernel_rfl
@[simp] theorem fieldOf0_194:fieldOf Tryz.prog 194 0=some 0:=by kernel_rfl
@[simp] theorem placeOf0_194:placeOf Tryz.prog 194 0=some (0,1):=by kernel_rfl
@[simp] theorem fieldOf1_194:fieldOf Tryz.prog 194 1=some 1:=by kernel_rfl
@[simp] theorem fieldOf2_194:fieldOf Tryz.prog 194 2=some 2:=by kernel_rfl
@[simp] theorem placeOf2_194:placeOf Tryz.prog 194 2=some (2,3):=by kernel_rfl
@[simp] theorem sized_194:sized Tryz.prog 194=true:=by kernel_rfl
@[simp] theorem loadG_194 {α:Type} (mk:List α→α) (cs:List α) (off:Nat):loadG mk Tryz.prog 194 cs off=if off+5≤cs.length then some (mk ((cs.drop off).take 5)) else none:=by kernel_rfl
@[simp] theorem zeroCellsOf_198:zeroCellsOf Tryz.prog 198=some [.fl [] 0, .d (.v (.int .i64 0))]:=by kernel_rfl
@[simp] theorem fieldOf0_198:fieldOf Tryz.prog 198 0=some 0:=by kernel_rfl
@[simp] theorem placeOf0_198:placeOf Tryz.prog 198 0=some (0,1):=by kernel_rfl
@[simp] theorem fieldOf1_198:fieldOf Tryz.prog 198 1=some 1:=by kernel_rfl
@[simp] theorem sized_198:sized Tryz.prog 198=true:=by kernel_rfl
@[simp] theorem nilEqN_206:evalNil Tryz.prog .eql 206 (.d (.v .nilIface)) .nilIface=some (.d (.v (.bool true))):=by kernel_rfl
@[simp] theorem nilEqI_206 (t:TypeId) (x:D):evalNil Tryz.prog .eql 206 (.d (.ifc t x)) .nilIface=some (.d (.v (.bool false))):=by kernel_rfl
@[simp] theorem isIface_208:isIface Tryz.prog 208=some (false):=by kernel_rfl
@[simp] theorem concrete_208:concrete Tryz.prog 208=true:=by kernel_rfl
@[simp] theorem zeroS_208:zeroS Tryz.prog 208=some (.d (.v (.string ⟨#[]⟩))):=by kernel_rfl
@[simp] theorem isIface_209:isIface Tryz.prog 209=some (false):=by kernel_rfl
@[simp] theorem concrete_209:concrete Tryz.prog 209=true:=by kernel_rfl
@[simp] theorem zeroS_209:zeroS Tryz.prog 209=some (.d (.v (.string ⟨#[]⟩))):=by kernel_rfl
@[simp] theorem isIface_281:isIface Tryz.prog 281=some (false):=by kernel_rfl
@[simp] theorem zeroCellsOf_281:zeroCellsOf Tryz.prog 281=some []:=by kernel_rfl
@[simp] theorem sized_281:sized Tryz.prog 281=true:=by kernel_rfl
@[simp] theorem isIface_282:isIface Tryz.prog 282=some (false):=by kernel_rfl
@[simp] theorem isIface_283:isIface Tryz.prog 283=some (false):=by kernel_rfl
@[simp] theorem isIface_284:isIface Tryz.prog 284=some (false):=by kernel_rfl
@[simp] theorem isIface_285:isIface Tryz.prog 285=some (false):=by kernel_rfl
@[simp] theorem isIface_287:isIface Tryz.prog 287=some (false):=by kernel_rfl
@[simp] theorem zeroCellsOf_287:zeroCellsOf Tryz.prog 287=some [.fl [] 0, .fl [] 0]:=by kernel_rfl
@[simp] theorem placeOf0_287:placeOf Tryz.prog 287 0=some (0,1):=by kernel_rfl
@[simp] theorem fieldOf1_287:fieldOf Tryz.prog 287 1=some 1:=by kernel_rfl
@[simp] theorem placeOf1_287:placeOf Tryz.prog 287 1=some (1,1):=by kernel_rfl
@[simp] theorem sized_287:sized Tryz.prog 287=true:=by kernel_rfl
@[simp] theorem zeroCellsOf_294:zeroCellsOf Tryz.prog 294=some [.fl [] 0, .d (.v (.int .i64 0)), .d (.v (.bool false))]:=by kernel_rfl
@[simp] theorem fieldOf0_294:fieldOf Tryz.prog 294 0=some 0:=by kernel_rfl
@[simp] theorem placeOf0_294:placeOf Tryz.prog 294 0=some (0,1):=by kernel_rfl
@[simp] theorem fieldOf1_294:fieldOf Tryz.prog 294 1=some 1:=by kernel_rfl
@[simp] theorem fieldOf2_294:fieldOf Tryz.prog 294 2=some 2:=by kernel_rfl
@[simp] theorem sized_294:sized Tryz.prog 294=true:=by kernel_rfl
@[simp] theorem szOf_364:szOf Tryz.prog 364=some (10):=by kernel_rfl
@[simp] theorem zeroCellsOf_364:zeroCellsOf Tryz.prog 364=some [.d (.v (.int .i64 0)), .d (.v (.int .i64 0)), .d (.v (.string ⟨#[]⟩)), .fl [] 0, .fl [] 0, .d (.v (.int .i64 0)), .d (.v (.int .i64 0)), .d (.v (.string ⟨#[]⟩)), .fl [] 0, .fl [] 0]:=by kernel_rfl
@[simp] theorem fieldOf0_364:fieldOf Tryz.prog 364 0=some 0:=by kernel_rfl
@[simp] theorem placeOf0_364:placeOf Tryz.prog 364 0=some (0,5):=by kernel_rfl
@[simp] theorem fieldOf1_364:fieldOf Tryz.prog 364 1=some 5:=by kernel_rfl
@[simp] theorem placeOf1_364:placeOf Tryz.prog 364 1=some (5,5):=by kernel_rfl
@[simp] theorem sized_364:sized Tryz.prog 364=true:=by kernel_rfl
@[simp] theorem loadG_364 {α:Type} (mk:List α→α) (cs:List α) (off:Nat):loadG mk Tryz.prog 364 cs off=if off+10≤cs.length then some (mk ((cs.drop off).take 10)) else none:=by kernel_rfl
@[simp] theorem isSlice_365:isSlice Tryz.prog 365=true:=by kernel_rfl
@[simp] theorem elemOf_365:Sh.elemOf Tryz.prog 365=some (364,10):=by kernel_rfl
@[simp] theorem makeOf_365:makeOf Tryz.prog 365=some ([.d (.v (.int .i64 0)), .d (.v (.int .i64 0)), .d (.v (.string ⟨#[]⟩)), .fl [] 0, .fl [] 0, .d (.v (.int .i64 0)), .d (.v (.int .i64 0)), .d (.v (.string ⟨#[]⟩)), .fl [] 0, .fl [] 0],10,160):=by kernel_rfl
@[simp] theorem zerosOf_365:zerosOf Tryz.prog 365=some ([.v (.int .i64 0), .v (.int .i64 0), .v (.string ⟨#[]⟩), .ps [] 0, .ps [] 0, .v (.int .i64 0), .v (.int .i64 0), .v (.string ⟨#[]⟩), .ps [] 0, .ps [] 0],10):=by kernel_rfl
end Go.Proofs.YtbmoiajdknejnaaGreat
namespace Go.Proofs.YtbmoiajdknejnaaGreat
open Go.Sh
variable {gl:Nat→Option D}
abbrev dI (n:Int):D:=.v (.int .i64 n)
abbrev dB (b:Bool):D:=.v (.bool b)
abbrev dS (s:ByteArray):D:=.v (.string s)
abbrev dY (n:Int):D:=.v (.int .u8 n)
theorem wrap64 {n:Int} (h : -9223372036854775808≤n) (h':n≤9223372036854775807):IntKind.i64.wrap n=n:=by rw[IntKind.wrap_i64];omega
@[simp] theorem wrap_lit (n:Int) (h : -9223372036854775808≤n) (h':n≤9223372036854775807):IntKind.i64.wrap n=n:=wrap64 h h'
@[simp] theorem bits_i64:IntKind.i64.bits=64:=(rfl)
def allTo (p:Nat→Bool) (n:Nat):Bool:=(List.range n).all p
theorem allTo_true {p:Nat→Bool}{n:Nat} (h:∀ j,j<n→p j=true):allTo p n=true:=List.all_eq_true.2 fun j hj=>h j (List.mem_range.1 hj)
theorem allTo_false {p:Nat→Bool}{n i:Nat} (hi:i<n) (h:p i=false):allTo p n=false:=by
  cases hb:allTo p n with
  | false=>rfl
  | true=>have:=List.all_eq_true.1 hb i (List.mem_range.2 hi);rw[h] at this;cases this
theorem allTo_iff {p:Nat→Bool}{n:Nat}:allTo p n=true↔∀ j,j<n→p j=true :=
  ⟨fun h j hj=>List.all_eq_true.1 h j (List.mem_range.2 hj),allTo_true⟩
theorem next_all {p:Nat→Bool}{i:Nat} (hp:∀ j,j<i→p j=true) (h:p i=true):∀ j,j<i+1→p j=true:=fun j hj=>by
  rcases Nat.lt_or_ge j i with h1 | h1
  · exact hp j h1
  · have:j=i:=by omega
    subst this;exact h
abbrev namesD (l:List ByteArray):D:=.ps (l.map dS) l.length
def NamesOk (l:List ByteArray):Prop:=l.length≤4611686018427387903∧∀ s∈l,s.size≤4611686018427387904
def upTo (k n:Nat) (E:Env) (S:St):Nat:=match E k with | some (.d (.v (.int _ i)))=>n - i.toNat | _=>0
theorem upTo_lt {k n i:Nat}{E E':Env}{S S':St} (h:E k=some (.d (dI i))) (h':E' k=some (.d (dI ((i:Int)+1)))) (hi:i<n):upTo k n E' S'<upTo k n E S:=by
  unfold upTo
  rw[h,h']
  simp only
  omega
section
variable {α β:Type}{enc:α→List β}{k:Nat}
theorem row_len (h:∀ x,(enc x).length=k):∀ l:List α,(l.flatMap enc).length=l.length*k
  | []=>by simp
  | x::r=>by rw[List.flatMap_cons,List.length_append,h x,row_len h r,List.length_cons,Nat.add_mul];omega
theorem row_drop (h:∀ x,(enc x).length=k):∀ (l:List α) (i:Nat),(l.flatMap enc).drop (i*k)=(l.drop i).flatMap enc
  | [],i=>by simp
  | x::r,0=>by simp
  | x::r,i+1=>by
    rw[List.flatMap_cons,List.drop_succ_cons, ← row_drop h r i,Nat.add_mul,Nat.one_mul,List.drop_append,h x]
    rw[List.drop_eq_nil_of_le (by rw[h x];omega),List.nil_append]
    congr 1;omega
theorem row_at (h:∀ x,(enc x).length=k) (l:List α) (i:Nat) (hi:i<l.length):((l.flatMap enc).drop (i*k)).take k=enc l[i]:=by
  rw[row_drop h,List.drop_eq_getElem_cons hi,List.flatMap_cons,List.take_append,h]
  rw[List.take_of_length_le (by rw[h];omega)]
  simp
variable {z:List β}
end
@[simp] theorem drop_made {α:Type} (f:Nat→α) (n:Nat):((List.range n).map f).drop n=[]:=by simp
def lookN {α:Type}:List (Nat×α)→Nat→Option α
  | [],_=>none
  | (k,v)::r,x=>if x=k then some v else lookN r x
@[simp] theorem lookN_nil {α:Type} (x:Nat):lookN (α:=α) [] x=none:=(rfl)
@[simp] theorem lookN_cons {α:Type} (k:Nat) (v:α) (r:List (Nat×α)) (x:Nat):lookN ((k,v)::r) x=if x=k then some v else lookN r x:=(rfl)
theorem lookN_mem {α:Type}:∀ {L:List (Nat×α)}{x:Nat}{y:α},lookN L x=some y→(x,y)∈L
  | (k,v)::L,x,y,h=>by
    simp only[lookN_cons] at h
    split at h
    · rename_i e
      cases h;subst e
      exact List.mem_cons_self
    · exact List.mem_cons_of_mem _ (lookN_mem h)
def leftF {α:Type} (n:Nat) (f:Nat→Option α) (L:List (Nat×α)) (x:Nat):Option α:=match lookN L x with | some cs=>some cs | none=>if x<n then f x else none
theorem leftF_less {α:Type}{n:Nat}{f g:Nat→Option α}{L:List (Nat×α)} (h1:∀ p∈L,g p.1=some p.2) (h2:∀ x,x<n→lookN L x=none→g x=f x) {x:Nat}{y:α} (h:leftF n f L x=some y):g x=some y:=by
  unfold leftF at h
  split at h
  · rename_i cs' h3
    cases h
    exact h1 _ (lookN_mem h3)
  · rename_i h3
    split at h
    · rename_i h4;rw[h2 x h4 h3];exact h
    · cases h
theorem leftF_old {α:Type}{n:Nat}{f:Nat→Option α}{L:List (Nat×α)}{x:Nat} (h:lookN L x=none) (hx:x<n):leftF n f L x=f x:=by
  unfold leftF;rw[h];exact if_pos hx
def leftS (S:St) (k:Nat) (B:List (Nat×List SV)) (T:List (Nat×(Nat×Nat))):St :=
  { S with B:=leftF S.nx S.B B,T:=leftF S.nx S.T T,nx:=S.nx+k }
theorem leftS_keeps (S:St) (k:Nat) (B:List (Nat×List SV)) (T:List (Nat×(Nat×Nat))):Keeps S (leftS S k B T):=⟨rfl,rfl,rfl,by simp[leftS]⟩
theorem elder_left {S S1:St}{k:Nat}{B:List (Nat×List SV)}{T:List (Nat×(Nat×Nat))} (hB:∀ p∈B,S1.B p.1=some p.2) (hT:∀ p∈T,S1.T p.1=some p.2) (hBl:∀ p∈B,p.1<S.nx+k∧ltS (S.nx+k) p.2=true) (hTl:∀ p∈T,p.1<S.nx+k)
    (hB2:∀ x,x<S.nx→lookN B x=none→S1.B x=S.B x) (hT2:∀ x,x<S.nx→lookN T x=none→S1.T x=S.T x):Elder S (leftS S k B T) S1:=by
  refine⟨rfl,rfl,rfl,Nat.le_add_right _ _,fun b cs h=>?_,fun i p h=>?_,fun b h=>leftF_less hB hB2 h⟩
  · have h1:=leftF_less hB hB2 h
    simp only[leftS,leftF] at h ⊢
    split at h
    · rename_i cs' h3
      cases h
      have:=hBl _ (lookN_mem h3)
      exact⟨this.1,⟨[],by simpa using h1⟩, .inl this.2⟩
    · split at h
      · rename_i h4;exact⟨by omega,⟨[],by simpa using h1⟩, .inr h⟩
      · cases h
  · have h1:=leftF_less hT hT2 h
    simp only[leftS,leftF] at h ⊢
    split at h
    · rename_i cs' h3
      exact⟨hTl _ (lookN_mem h3),h1⟩
    · split at h
      · rename_i h4;exact⟨by omega,h1⟩
      · cases h
@[simp] theorem leftS_n (S:St) (k:Nat) (B:List (Nat×List SV)) (T:List (Nat×(Nat×Nat))):(leftS S k B T).n=S.n:=(rfl)
@[simp] theorem leftS_gl (S:St) (k:Nat) (B:List (Nat×List SV)) (T:List (Nat×(Nat×Nat))):(leftS S k B T).gl=S.gl:=(rfl)
@[simp] theorem leftS_nx (S:St) (k:Nat) (B:List (Nat×List SV)) (T:List (Nat×(Nat×Nat))):(leftS S k B T).nx=S.nx+k:=(rfl)
@[simp] theorem leftS_B (S:St) (k:Nat) (B:List (Nat×List SV)) (T:List (Nat×(Nat×Nat))) (x:Nat):(leftS S k B T).B x=leftF S.nx S.B B x:=(rfl)
@[simp] theorem leftS_T (S:St) (k:Nat) (B:List (Nat×List SV)) (T:List (Nat×(Nat×Nat))) (x:Nat):(leftS S k B T).T x=leftF S.nx S.T T x:=(rfl)
@[simp] theorem leftF_cons {α:Type} (n:Nat) (f:Nat→Option α) (k:Nat) (v:α) (r:List (Nat×α)) (x:Nat):leftF n f ((k,v)::r) x=if x=k then some v else leftF n f r x:=by
  unfold leftF;simp only[lookN_cons];by_cases h:x=k<;>simp[h]
@[simp] theorem leftF_nil {α:Type} (n:Nat) (f:Nat→Option α) (x:Nat):leftF n f [] x=if x<n then f x else none:=by
  unfold leftF;simp only[lookN_nil]
def Old (S0:St) (bs ts:List Nat) (S:St):Prop:=∀ x,x<S0.nx→(¬ x∈bs→S.B x=S0.B x)∧(¬ x∈ts→S.T x=S0.T x)
section
variable {S0 S:St}{bs ts:List Nat}
theorem Old.refl (S0:St) (bs ts:List Nat):Old S0 bs ts S0:=fun _ _=>⟨fun _=>rfl,fun _=>rfl⟩
theorem Old.more {bs' ts':List Nat} (h:Old S0 bs ts S) (hb:∀ x∈bs,x∈bs') (ht:∀ x∈ts,x∈ts'):Old S0 bs' ts' S :=
  fun x hx=>⟨fun h1=>(h x hx).1 fun h2=>h1 (hb x h2),fun h1=>(h x hx).2 fun h2=>h1 (ht x h2)⟩
@[simp] theorem old_adv {k:Nat}:Old S0 bs ts (S.adv k)=Old S0 bs ts S:=(rfl)
@[simp] theorem old_mk {n nx:Nat}{md:List Nat}{gl:Nat→Option D}:Old S0 bs ts { B:=S0.B,T:=S0.T,n:=n,nx:=nx,md:=md,gl:=gl }=True:=by
  simp[Old]
theorem old_set {q:Nat}{cs:List SV} (h:S0.nx≤q):Old S0 bs ts (S.set q cs)=Old S0 bs ts S:=by
  unfold Old
  refine propext (forall_congr' fun x=>forall_congr' fun hx=>?_)
  simp[show ¬ x=q by omega]
theorem old_new {q:Nat}{cs:List SV} (h:S0.nx≤q):Old S0 bs ts (S.new q cs)=Old S0 bs ts S:=by
  unfold Old
  refine propext (forall_congr' fun x=>forall_congr' fun hx=>?_)
  simp[show ¬ x=q by omega]
theorem old_tip {q k sz:Nat} (h:S0.nx≤q):Old S0 bs ts (S.tipTo q k sz)=Old S0 bs ts S:=by
  unfold Old
  refine propext (forall_congr' fun x=>forall_congr' fun hx=>?_)
  simp[St.tipTo,show ¬ x=q by omega]
theorem old_setIn {q:Nat}{cs:List SV} (h:q∈bs):Old S0 bs ts (S.set q cs)=Old S0 bs ts S:=by
  unfold Old
  refine propext (forall_congr' fun x=>forall_congr' fun hx=>?_)
  by_cases hb:x∈bs
  · simp[hb]
  · simp[hb,show ¬ x=q from fun e=>hb (e▸h)]
theorem old_tipIn {q k sz:Nat} (h:q∈ts):Old S0 bs ts (S.tipTo q k sz)=Old S0 bs ts S:=by
  unfold Old
  refine propext (forall_congr' fun x=>forall_congr' fun hx=>?_)
  by_cases hb:x∈ts
  · simp[hb,St.tipTo]
  · simp[hb,St.tipTo,show ¬ x=q from fun e=>hb (e▸h)]
theorem old_left {k:Nat}{B:List (Nat×List SV)}{T:List (Nat×(Nat×Nat))} (h:S0.nx≤S.nx) (hB:∀ p∈B,p.1∈bs∨S0.nx≤p.1) (hT:∀ p∈T,p.1∈ts∨S0.nx≤p.1) (ho:Old S0 bs ts S):Old S0 bs ts (leftS S k B T):=by
  intro x hx
  refine⟨fun hb=>?_,fun ht=>?_⟩
  · have:lookN B x=none:=by
      cases hl:lookN B x with
      | none=>rfl
      | some y => rcases hB _ (lookN_mem hl) with h1 | h1 <;> simp only at h1
                  · exact absurd h1 hb
                  · omega
    simp only[leftS]
    rw[leftF_old this (by omega)]
    exact (ho x hx).1 hb
  · have:lookN T x=none:=by
      cases hl:lookN T x with
      | none=>rfl
      | some y => rcases hT _ (lookN_mem hl) with h1 | h1 <;> simp only at h1
                  · exact absurd h1 ht
                  · omega
    simp only[leftS]
    rw[leftF_old this (by omega)]
    exact (ho x hx).2 ht
end
theorem elder_old {S0 S1:St}{k:Nat}{B:List (Nat×List SV)}{T:List (Nat×(Nat×Nat))}{bs ts:List Nat} (h:Old S0 bs ts S1) (hB:∀ p∈B,S1.B p.1=some p.2) (hT:∀ p∈T,S1.T p.1=some p.2) (hBl:∀ p∈B,p.1<S0.nx+k∧ltS (S0.nx+k) p.2=true) (hTl:∀ p∈T,p.1<S0.nx+k)
    (hB2:∀ x∈bs,x<S0.nx→lookN B x=none→S1.B x=S0.B x) (hT2:∀ x∈ts,x<S0.nx→lookN T x=none→S1.T x=S0.T x):Elder S0 (leftS S0 k B T) S1 :=
  elder_left hB hT hBl hTl (fun x hx hl=>if hb:x∈bs then hB2 x hb hx hl else (h x hx).1 hb) (fun x hx hl=>if hb:x∈ts then hT2 x hb hx hl else (h x hx).2 hb)
abbrev dU' (b:UInt8):D:=.v (.int .u8 b.toNat)
abbrev codeD (l:List UInt8):D:=.ps (l.map dU') l.length
def Rdr (S:St) (b:Nat) (c:List UInt8) (p:Nat):Prop:=b<S.nx∧S.B b=some [.d (codeD c), .d (dI p)]∧c.length≤2000∧p≤1099511627776
theorem Rdr.mono {S S':St}{b:Nat}{c:List UInt8}{p:Nat} (h:Rdr S b c p) (hB:S'.B b=S.B b) (hn:S.nx≤S'.nx):Rdr S' b c p:=⟨by have:=h.1;omega,hB.trans h.2.1,h.2.2⟩
theorem wrap_xor {a b:Int} (ha:0≤a) (ha':a<4611686018427387904) (hb:0≤b) (hb':b<4611686018427387904) :
    0≤IntKind.i64.wrap (((a % 18446744073709551616).toNat ^^^ (b % 18446744073709551616).toNat:Nat):Int)∧IntKind.i64.wrap (((a % 18446744073709551616).toNat ^^^ (b % 18446744073709551616).toNat:Nat):Int)<4611686018427387904:=by
  rw[Int.emod_eq_of_lt ha (by omega),Int.emod_eq_of_lt hb (by omega)]
  have h:=Nat.xor_lt_two_pow (n:=62) (x:=a.toNat) (y:=b.toNat) (by omega) (by omega)
  generalize a.toNat ^^^ b.toNat=q at *
  rw[wrap64 (by omega) (by omega)]
  omega
def mixX (c:List UInt8) (p:Nat):Int:=((c.getD (p % c.length) 0).toNat:Int)*131+(c.getD ((p*7+3) % c.length) 0).toNat*1117+p*29+((p / c.length:Nat):Int)*53
def mixI (c:List UInt8) (p:Nat):Int:=IntKind.i64.wrap ((((mixX c p) % 18446744073709551616).toNat ^^^ (((mixX c p) / 64) % 18446744073709551616).toNat:Nat):Int)
def pickK (c:List UInt8) (p n:Nat):Nat:=if c=[] then 0 else if p<c.length then (c.getD p 0).toNat % n else (mixI c p % n).toNat
theorem pickK_lt (c:List UInt8) (p n:Nat) (hn:1≤n):pickK c p n<n:=by
  unfold pickK
  split
  · omega
  · split
    · exact Nat.mod_lt _ (by omega)
    · have h1:=Int.emod_lt_of_pos (mixI c p) (b:=n) (by omega)
      have h2:=Int.emod_nonneg (mixI c p) (b:=(n:Int)) (by omega)
      omega
set_option maxHeartbeats 8000000 in
theorem l_pick (S0:St) (b:Nat) (c:List UInt8) (p:Nat) (n:Nat) (hS:Rdr S0 b c p) (hp:p<1099511627776) (hn:1≤n) (hn2:n≤1099511627776) :
    LCall Tryz.prog 83 [.op b 0, .d (dI n)] S0 (.d (dI (pickK c p n))) (leftS S0 0 [(b,[.d (codeD c), .d (dI ((p+1:Nat):Int))])] []):=by
  obtain⟨hb,hB,hc,_⟩:=hS
  have w1:IntKind.i64.wrap ((p:Int)+1)=((p:Int)+1):=wrap64 (by omega) (by omega)
  have w2:IntKind.i64.wrap (p:Int)=(p:Int):=wrap64 (by omega) (by omega)
  have hn1:¬ ((n:Int)<1):=by omega
  have ne:∀ k,S0.nx≤k→¬ b=k:=fun k=>by omega
  by_cases hc0:c=[]
  · subst hc0
    rw[show pickK [] p n=0 from if_pos rfl]
    refine LCall.byE (md:=[]) (leftS_keeps _ _ _ _) (by simp[SV.lt,ltS]<;>omega) Tryz.func83 rfl (by kernel_rfl) (n:=99) Tryz.ntmps83 (by simp) (by decide) rfl ?_
    simp[hB,w1,w2,hn1]
    refine elder_old (bs:=[b]) (ts:=[]) ?_ ?_ ?_ ?_ ?_ ?_ ?_
    · simp[old_setIn]
    · simp
    · simp
    · simp[hb,ltS,SV.lt]
    · simp
    · simp
    · simp
  have hcl:0<c.length:=List.length_pos_iff.2 hc0
  have hcl1:¬ c.length=0:=by omega
  by_cases hpl:p<c.length
  · obtain⟨u,hu⟩:∃ u,u=c[p]:=⟨_,rfl⟩
    have hu2:∀ h,c[p]'h=u:=fun _=>hu.symm
    have hul:=u.toNat_lt
    have hm:(u.toNat:Int).tmod n=((u.toNat % n:Nat):Int):=by rw[Int.tmod_eq_emod_of_nonneg (by omega)];omega
    have hk:pickK c p n=u.toNat % n:=by rw[pickK,if_neg hc0,if_pos hpl,hu,List.getD_eq_getElem?_getD,List.getElem?_eq_getElem hpl];rfl
    rw[hk]
    have hw:=wrap64 (n:=(u.toNat:Int)) (by omega) (by omega)
    have hn3:¬ n=0:=by omega
    refine LCall.byE (md:=[]) (leftS_keeps _ _ _ _) (by simp[SV.lt,ltS]<;>omega) Tryz.func83 rfl (by kernel_rfl) (n:=99) Tryz.ntmps83 (by simp) (by decide) rfl ?_
    simp[hB,w1,w2,hn1,hc0,hpl,hu2,hw,hm,hn3]
    refine elder_old (bs:=[b]) (ts:=[]) ?_ ?_ ?_ ?_ ?_ ?_ ?_
    · simp[old_setIn]
    · simp
    · simp
    · simp[hb,ltS,SV.lt]
    · simp
    · simp
    · simp
  · obtain⟨i1,hi1,r1,m1⟩:∃ i1:Nat,i1<c.length∧i1=p % c.length∧(p:Int).tmod c.length=i1:=⟨p % c.length,Nat.mod_lt _ hcl,rfl,by rw[Int.tmod_eq_emod_of_nonneg (by omega)];omega⟩
    obtain⟨i2,hi2,r2,m2⟩:∃ i2:Nat,i2<c.length∧i2=(p*7+3) % c.length∧((p:Int)*7+3).tmod c.length=i2:=⟨(p*7+3) % c.length,Nat.mod_lt _ hcl,rfl,by rw[Int.tmod_eq_emod_of_nonneg (by omega)];simp⟩
    obtain⟨d,hd,r3,m3⟩:∃ d:Nat,d≤p∧d=p / c.length∧(p:Int).tdiv c.length=d:=⟨p / c.length,Nat.div_le_self _ _,rfl,by rw[Int.tdiv_eq_ediv_of_nonneg (by omega)];simp⟩
    obtain⟨u,hu⟩:∃ u,u=c[i1]:=⟨_,rfl⟩
    obtain⟨v,hv⟩:∃ v,v=c[i2]:=⟨_,rfl⟩
    have hu2:∀ h,c[i1]'h=u:=fun _=>hu.symm
    have hv2:∀ h,c[i2]'h=v:=fun _=>hv.symm
    have hul:=u.toNat_lt
    have hvl:=v.toNat_lt
    have e1:=wrap64 (n:=(p:Int)*7) (by omega) (by omega)
    have e2:=wrap64 (n:=(p:Int)*7+3) (by omega) (by omega)
    have e3:=wrap64 (n:=(u.toNat:Int)) (by omega) (by omega)
    have e4:=wrap64 (n:=(v.toNat:Int)) (by omega) (by omega)
    have e5:=wrap64 (n:=(u.toNat:Int)*131) (by omega) (by omega)
    have e6:=wrap64 (n:=(v.toNat:Int)*1117) (by omega) (by omega)
    have e7:=wrap64 (n:=(u.toNat:Int)*131+v.toNat*1117) (by omega) (by omega)
    have e8:=wrap64 (n:=(p:Int)*29) (by omega) (by omega)
    have e9:=wrap64 (n:=(u.toNat:Int)*131+v.toNat*1117+p*29) (by omega) (by omega)
    have e10:=wrap64 (n:=(d:Int)) (by omega) (by omega)
    have e11:=wrap64 (n:=(d:Int)*53) (by omega) (by omega)
    have e12:=wrap64 (n:=(u.toNat:Int)*131+v.toNat*1117+p*29+d*53) (by omega) (by omega)
    have m4:((u.toNat:Int)*131+v.toNat*1117+p*29+d*53).tdiv 64=((u.toNat:Int)*131+v.toNat*1117+p*29+d*53) / 64:=Int.tdiv_eq_ediv_of_nonneg (by omega)
    have e13:=wrap64 (n:=((u.toNat:Int)*131+v.toNat*1117+p*29+d*53) / 64) (by omega) (by omega)
    have hX:=wrap_xor (a:=(u.toNat:Int)*131+v.toNat*1117+p*29+d*53) (b:=((u.toNat:Int)*131+v.toNat*1117+p*29+d*53) / 64) (by omega) (by omega) (by omega) (by omega)
    have hn3:¬ n=0:=by omega
    have hx:mixX c p=(u.toNat:Int)*131+v.toNat*1117+p*29+d*53:=by
      unfold mixX
      rw[← r1, ← r2, ← r3,hu,hv,List.getD_eq_getElem?_getD,List.getD_eq_getElem?_getD,List.getElem?_eq_getElem hi1,List.getElem?_eq_getElem hi2];rfl
    have m5:(IntKind.i64.wrap (((((u.toNat:Int)*131+v.toNat*1117+p*29+d*53) % 18446744073709551616).toNat ^^^ ((((u.toNat:Int)*131+v.toNat*1117+p*29+d*53) / 64) % 18446744073709551616).toNat:Nat):Int)).tmod n=(pickK c p n:Int):=by
      rw[pickK,if_neg hc0,if_neg hpl,mixI,hx]
      have h0:=hX.1
      generalize IntKind.i64.wrap _=y at h0 ⊢
      have h2:=Int.emod_nonneg y (b:=(n:Int)) (by omega)
      rw[Int.tmod_eq_emod_of_nonneg h0]
      omega
    refine LCall.byE (md:=[]) (leftS_keeps _ _ _ _) (by simp[SV.lt,ltS]<;>omega) Tryz.func83 rfl (by kernel_rfl) (n:=99) Tryz.ntmps83 (by simp) (by decide) rfl ?_
    simp[hB,w1,w2,hn1,hc0,hpl,m1,m2,m3,hi1,hi2,hu2,hv2,e1,e2,e3,e4,e5,e6,e7,e8,e9,e10,e11,e12,hcl1,m4,e13,hn3,m5]
    refine⟨DrawT.mk (by kernel_rfl),?_⟩
    refine elder_old (bs:=[b]) (ts:=[]) ?_ ?_ ?_ ?_ ?_ ?_ ?_
    · simp[old_setIn]
    · simp
    · simp
    · simp[hb,ltS,SV.lt]
    · simp
    · simp
    · simp
theorem callPick {S:St}{b:Nat}{c:List UInt8}{p n:Nat}{lo:Lo}{K:Bool→SV→St→Prop}{X:SV} (hX:X=.d (dI n)) (hS:Rdr S b c p) (hp:p<1099511627776) (hn:1≤n) (hn2:n≤1099511627776) (hlo:lo.loud=true)
    (hK:K true (.d (dI (pickK c p n))) (leftS S 0 [(b,[.d (codeD c), .d (dI ((p+1:Nat):Int))])] [])):CallT lo Tryz.prog 83 [.op b 0,X] S K:=by
  subst hX
  exact CallT.l (l_pick S b c p n hS hp hn hn2) hlo hK
theorem Rdr.next {S:St}{b:Nat}{c:List UInt8}{p q:Nat}{k:Nat} (hS:Rdr S b c p) (hp:q≤1099511627776):Rdr (leftS S k [(b,[.d (codeD c), .d (dI (q:Int))])] []) b c q :=
  ⟨by have:=hS.1;simp;omega,by simp,hS.2.2.1,hp⟩
def TextRow (X:SV) (l:List ByteArray):Prop:=X=.fl (l.map dS) l.length∨X=.d (namesD l)
def ofK (c:List UInt8) (p:Nat) (l:List ByteArray):ByteArray:=l.getD (pickK c p l.length) ⟨#[]⟩
theorem ofK_mem (c:List UInt8) (p:Nat) {l:List ByteArray} (hl:l≠[]):ofK c p l∈l:=by
  have hll:0<l.length:=List.length_pos_iff.2 hl
  have:=pickK_lt c p l.length hll
  unfold ofK
  rw[List.getD_eq_getElem?_getD,List.getElem?_eq_getElem this]
  exact List.getElem_mem this
set_option maxHeartbeats 8000000 in
theorem l_of (S0:St) (b:Nat) (c:List UInt8) (p:Nat) (X:SV) (l:List ByteArray) (hX:TextRow X l) (hl:l≠[]) (hl2:l.length≤1048576) (hS:Rdr S0 b c p) (hp:p<1099511627776) :
    LCall Tryz.prog 84 [.op b 0,X] S0 (.d (dS (ofK c p l))) (leftS S0 0 [(b,[.d (codeD c), .d (dI ((p+1:Nat):Int))])] []):=by
  have hll:0<l.length:=List.length_pos_iff.2 hl
  have hk:=pickK_lt c p l.length hll
  have hb:=hS.1
  have hat:l[pickK c p l.length]?=some (ofK c p l):=by
    unfold ofK
    rw[List.getD_eq_getElem?_getD,List.getElem?_eq_getElem hk];rfl
  have hat2:∀ h,l[pickK c p l.length]'h=ofK c p l:=fun h=>by rw[List.getElem?_eq_getElem h] at hat;exact Option.some.inj hat
  rcases hX with rfl | rfl
  all_goals
    refine LCall.byE (md:=[]) (leftS_keeps _ _ _ _) (by simp[SV.lt,ltS]<;>omega) Tryz.func84 rfl (by kernel_rfl) (n:=12) Tryz.ntmps84 (by simp) (by decide) rfl ?_
    simp
    refine callPick rfl (hS.mono (by simp) (by simp)) hp (by omega) (by omega) rfl ?_
    simp[hk,hat2]
    refine elder_old (bs:=[b]) (ts:=[]) ?_ ?_ ?_ ?_ ?_ ?_ ?_
    · exact old_left (by simp) (by simp) (by simp) (by simp)
    · simp
    · simp
    · simp[hb,ltS,SV.lt]
    · simp
    · simp
    · simp
def codeOf (c:List UInt8):List UInt8:=c.take 2000
set_option maxHeartbeats 8000000 in
theorem l_open (S0:St) (c:List UInt8) (hc:c.length≤140737488351232):∃ id,S0.nx≤id∧id<S0.nx+20∧LCall Tryz.prog 61 [.d (codeD c)] S0 (.op id 0) (leftS S0 20 [(id,[.d (codeD (codeOf c)), .d (dI 0)])] []):=by
  by_cases hl:(2000:Int)<c.length
  · have h1:(2000:Int)≤c.length:=by omega
    refine⟨S0.nx+9,by omega,by omega,?_⟩
    refine LCall.byE (md:=[]) (leftS_keeps _ _ _ _) (by simp[SV.lt,ltS]<;>omega) Tryz.func61 rfl (by kernel_rfl) (n:=11) Tryz.ntmps61 (by simp) (by decide) rfl ?_
    simp[hl,h1]
    refine elder_old (bs:=[]) (ts:=[]) ?_ ?_ ?_ ?_ ?_ ?_ ?_
    · simp[old_new]
    · have e:(codeOf c).length=2000:=by unfold codeOf;simp;omega
      simp[codeD,codeOf,List.map_take]
      omega
    · simp
    · simp[ltS,SV.lt]
    · simp
    · simp
    · simp
  · refine⟨S0.nx+6,by omega,by omega,?_⟩
    refine LCall.byE (md:=[]) (leftS_keeps _ _ _ _) (by simp[SV.lt,ltS]<;>omega) Tryz.func61 rfl (by kernel_rfl) (n:=11) Tryz.ntmps61 (by simp) (by decide) rfl ?_
    simp[hl]
    refine elder_old (bs:=[]) (ts:=[]) ?_ ?_ ?_ ?_ ?_ ?_ ?_
    · simp[old_new]
    · have e:codeOf c=c:=List.take_of_length_le (by omega)
      simp[codeD,e]
    · simp
    · simp[ltS,SV.lt]
    · simp
    · simp
    · simp
def manyGo:Nat→ByteArray→ByteArray→Nat→ByteArray
  | 0,out,_,_=>out
  | f+1,out,s,n=>if n=0 then out else manyGo f (if n % 2=1 then out++s else out) (s++s) (n / 2)
theorem manyGo_size:∀ (f:Nat) (out s:ByteArray) (n:Nat),n≤f→(manyGo f out s n).size=out.size+n*s.size
  | 0,out,s,n,h=>by
    obtain rfl:n=0:=by omega
    simp[manyGo]
  | f+1,out,s,n,h=>by
    simp only[manyGo]
    split
    · rename_i h0;simp[h0]
    · rename_i h0
      rw[manyGo_size f _ _ _ (by omega)]
      have hn:n=2*(n / 2)+n % 2:=by omega
      generalize n / 2=q at *
      rcases Nat.mod_two_eq_zero_or_one n with h2 | h2
      · rw[h2] at hn
        rw[hn]
        simp[ByteArray.size_append]
        rw[← Nat.mul_two, ← Nat.mul_assoc,Nat.mul_right_comm,Nat.mul_comm q 2]
      · rw[h2] at hn
        have e:(2*q+1) % 2=1:=by omega
        rw[hn]
        simp only[e,if_true,ByteArray.size_append]
        rw[Nat.add_mul, ← Nat.mul_two,Nat.one_mul, ← Nat.mul_assoc,Nat.mul_right_comm,Nat.mul_comm q 2]
        omega
def manyS (s:ByteArray) (n:Nat):ByteArray:=manyGo n ⟨#[]⟩ s n
theorem manyS_size (s:ByteArray) (n:Nat):(manyS s n).size=n*s.size:=by
  unfold manyS
  rw[manyGo_size _ _ _ _ (Nat.le_refl _)]
  show 0+_=_
  omega
theorem manyGo_more:∀ (f g:Nat) (out s:ByteArray) (n:Nat),n≤f→n≤g→manyGo f out s n=manyGo g out s n
  | 0,0,_,_,_,_,_=>rfl
  | 0,g+1,out,s,n,h,_=>by
    obtain rfl:n=0:=by omega
    simp[manyGo]
  | f+1,0,out,s,n,_,h=>by
    obtain rfl:n=0:=by omega
    simp[manyGo]
  | f+1,g+1,out,s,n,h,h'=>by
    simp only[manyGo]
    split
    · rfl
    · exact manyGo_more f g _ _ _ (by omega) (by omega)
set_option maxHeartbeats 8000000 in
theorem p_many (s:ByteArray) (n:Nat) (hs:s.size*n≤1073741824) (hn:n≤1073741824) (hs1:s.size≤1073741824):PCall Tryz.prog gl 189 [dS s,dI n] (dS (manyS s n)):=by
  refine PCall.by_ (md:=[]) Tryz.func189 rfl (by kernel_rfl) (n:=20) Tryz.ntmps189 (by simp) (by decide) rfl ?_
  simp
  refine LoopT.round (fun E S=>∃ (out:ByteArray) (t:ByteArray) (m:Nat),E 0=some (.d (dS t))∧E 1=some (.d (dI m))∧E 5=some (.d (dS out))∧(m≤n)∧(t.size≤2147483648)∧(manyGo m out t m=manyS s n)) (fun E S=>match E 1 with | some (.d (.v (.int _ i)))=>i.toNat | _=>0) ⟨⟨#[]⟩,s,n,by simp;exact⟨by omega,rfl⟩⟩ ?_
  rintro E S hk ⟨out,t,m,h0,h1,h5,hm,hz3,hr⟩
  have hn:S.n=20:=by first | (simpa using hk.n)|(have hh:=hk.n;simp at hh;exact hh)
  have hg:S.gl=gl:=by first | (simpa using hk.gl)|(have hh:=hk.gl;simp at hh;exact hh)
  have hmd:S.md=[]:=by first | (simpa using hk.md)|(have hh:=hk.md;simp at hh;exact hh)
  simp[h0,h1,h5,hn,hg,hmd]
  have key:out.size+m*t.size=n*s.size:=by rw[← manyGo_size m out t m (Nat.le_refl _),hr,manyS_size]
  rw[Nat.mul_comm] at hs
  by_cases hm0:m=0
  · subst hm0
    simp[h0,h1,h5,hn,hg,hmd]
    simpa[manyGo] using hr
  have g1:t.size≤m*t.size:=Nat.le_mul_of_pos_left _ (by omega)
  have g2:0<m:=by omega
  have w1:(m:Int).tmod 2=(m:Int) % 2:=Int.tmod_eq_emod_of_nonneg (by omega)
  have w2:(m:Int).tdiv 2=((m / 2:Nat):Int):=by rw[Int.tdiv_eq_ediv_of_nonneg (by omega)];simp
  have w3:IntKind.i64.wrap ((m:Int) / 2)=(m:Int) / 2:=wrap64 (by omega) (by omega)
  have g4:t.size+t.size≤9223372036854775807:=by omega
  have g5:out.size+t.size≤9223372036854775807:=by omega
  have hr2:manyGo (m / 2) (if m % 2=1 then out++t else out) (t++t) (m / 2)=manyS s n:=by
    rw[← hr]
    obtain⟨q,hq⟩:∃ q,m=q+1:=⟨m - 1,by omega⟩
    have:manyGo m out t m=manyGo q (if m % 2=1 then out++t else out) (t++t) (m / 2):=by
      conv=>lhs;rw[hq]
      rw[manyGo, ← hq,if_neg hm0]
    rw[this]
    exact manyGo_more _ _ _ _ _ (by omega) (by omega)
  simp[h0,h1,h5,hn,hg,hmd,g2,w1,w2,w3,g4,g5]
  refine BrT.dec (fun c=>?_) (fun c=>?_)
  · have c':m % 2=1:=by omega
    rw[if_pos c'] at hr2
    simp[h0,h1,h5,hn,hg,hmd,g2,w1,w2,w3,g4,g5,c]
    exact⟨⟨_,m / 2,by omega,rfl,by omega,by omega,hr2⟩,by omega⟩
  · have c':¬ m % 2=1:=by omega
    rw[if_neg c'] at hr2
    simp[h0,h1,h5,hn,hg,hmd,g2,w1,w2,w3,g4,g5,c]
    exact⟨⟨_,m / 2,by omega,rfl,by omega,by omega,hr2⟩,by omega⟩
theorem p_l1In (a b c:Int):PCall Tryz.prog gl 170 [dI a,dI b,dI c] (dB (decide (b≤a)&&decide (a≤c))):=by
  refine PCall.by_ (md:=[]) Tryz.func170 rfl (by kernel_rfl) (n:=15) Tryz.ntmps170 (by simp) (by decide) rfl ?_
  simp
  refine BrT.dec (fun h=>?_) (fun h=>?_)<;>simp[h]
def letterB (n:Int):Bool:=(decide (97≤n)&&decide (n≤122)) || (decide (65≤n)&&decide (n≤90)) || decide (n=95)
def figureB (n:Int):Bool:=decide (48≤n)&&decide (n≤57)
theorem p_l1Letter (n:Int):PCall Tryz.prog gl 241 [dY n] (dB (letterB n)):=by
  refine PCall.by_ (md:=[]) Tryz.func241 rfl (by kernel_rfl) (n:=21) Tryz.ntmps241 (by simp) (by decide) rfl ?_
  simp
  repeat' first
    | (refine BrT.dec (fun h=>?_) (fun h=>?_)<;>simp[h])
  all_goals (unfold letterB;simp[*])
theorem p_l1Figure (n:Int):PCall Tryz.prog gl 242 [dY n] (dB (figureB n)):=by
  refine PCall.by_ (md:=[]) Tryz.func242 rfl (by kernel_rfl) (n:=9) Tryz.ntmps242 (by simp) (by decide) rfl ?_
  simp
  repeat' first
    | (refine BrT.dec (fun h=>?_) (fun h=>?_)<;>simp[h])
  all_goals (unfold figureB;simp[*])
theorem p_isFigure (n:Int):PCall Tryz.prog gl 237 [dY n] (dB (figureB n)):=by
  refine PCall.by_ (md:=[]) Tryz.func237 rfl (by kernel_rfl) (n:=9) Tryz.ntmps237 (by simp) (by decide) rfl ?_
  simp
  repeat' first
    | (refine BrT.dec (fun h=>?_) (fun h=>?_)<;>simp[h])
  all_goals (unfold figureB;simp[*])
theorem p_isWordByte (n:Int):PCall Tryz.prog gl 238 [dY n] (dB (letterB n || figureB n)):=by
  refine PCall.by_ (md:=[]) Tryz.func238 rfl (by kernel_rfl) (n:=25) Tryz.ntmps238 (by simp) (by decide) rfl ?_
  simp
  repeat' first
    | (refine BrT.dec (fun h=>?_) (fun h=>?_)<;>simp[h])
    | (refine CallT.p (p_isFigure _) rfl rfl ?_;simp)
  all_goals (unfold letterB;simp[*])
def nameP (s:ByteArray) (i:Nat):Bool:=letterB (byteI s i) || (!decide (i=0)&&figureB (byteI s i))
def nameB (s:ByteArray):Bool:=allTo (nameP s) s.size&&(decide (1≤(s.size:Int))&&decide ((s.size:Int)≤12))
set_option maxHeartbeats 1000000 in
theorem p_l1Name (s:ByteArray) (hs:s.size≤4611686018427387904):PCall Tryz.prog gl 168 [dS s] (dB (nameB s)):=by
  refine PCall.by_ (md:=[]) Tryz.func168 rfl (by kernel_rfl) (n:=29) Tryz.ntmps168 (by simp) (by decide) rfl ?_
  simp
  refine LoopT.round (fun E S=>∃ i:Nat,i≤s.size∧E 0=some (.d (dS s))∧E 3=some (.d (dI i))∧(∀ j,j<i→nameP s j=true)) (fun E S=>match E 3 with | some (.d (.v (.int _ i)))=>s.size - i.toNat | _=>0) ⟨0,by simp⟩ ?_
  rintro E S hk ⟨i,hi,h0,h3,hp⟩
  have hn:S.n=29:=by simpa using hk.n
  have hg:S.gl=gl:=by simpa using hk.gl
  have w:IntKind.i64.wrap ((i:Int)+1)=(i:Int)+1:=wrap64 (by omega) (by omega)
  simp[h0,h3,hn]
  refine BrT.dec (fun h=>?_) (fun h=>?_)
  · have hi2:i<s.size:=by omega
    simp[h0,h3,hn,hi2]
    refine CallT.p (p_l1Letter _) (by first | rfl | simp[hg]) rfl ?_
    simp[h0,h3,hn,hi2]
    have bad:nameP s i=false→nameB s=false:=fun h1=>by rw[nameB,allTo_false hi2 h1];rfl
    refine BrT.mk (fun hl=>?_) (fun hl=>?_)
    · simp[h0,h3,hn,hl,w]
      exact⟨⟨i+1,by omega,rfl,next_all hp (by simp[nameP,hl])⟩,by omega⟩
    · simp[h0,h3,hn,hl]
      refine BrT.dec (fun hz=>?_) (fun hz=>?_)
      · have hq:=bad (by subst hz;simp[nameP,hl])
        simp[h0,h3,hn,hl,hz,hq]
      · simp[h0,h3,hn,hl,hz,hi2]
        refine CallT.p (p_l1Figure _) (by first | rfl | simp[hg]) rfl ?_
        simp[h0,h3,hn,hl,hz]
        refine BrT.mk (fun hf=>?_) (fun hf=>?_)
        · simp[h0,h3,hn,hl,hz,hf,w]
          exact⟨⟨i+1,by omega,rfl,next_all hp (by simp[nameP,hl,hz,hf])⟩,by omega⟩
        · have hq:=bad (by simp[nameP,hl,hz,hf])
          simp[h0,h3,hn,hl,hz,hf,hq]
  · simp[h0,h3,hn]
    have hi3:i=s.size:=by omega
    subst hi3
    refine CallT.p (p_l1In _ _ _) (by first | rfl | simp[hg]) rfl ?_
    simp[nameB,allTo_true hp,hn]
theorem nameB_short {s:ByteArray} (h:(s.size:Int)<1):nameB s=false:=by
  have:¬ (1≤(s.size:Int)):=by omega
  simp[nameB,this]
theorem nameB_long {s:ByteArray} (h:12<(s.size:Int)):nameB s=false:=by
  have:¬ ((s.size:Int)≤12):=by omega
  simp[nameB,this]
theorem not_letter {n:Int} (h:figureB n=true):letterB n=false:=by
  simp only[figureB,letterB,Bool.and_eq_true,Bool.or_eq_false_iff,decide_eq_true_eq,Bool.and_eq_false_iff,decide_eq_false_iff_not] at *
  omega
set_option maxHeartbeats 1000000 in
theorem p_isName (s:ByteArray) (hs:s.size≤4611686018427387904):PCall Tryz.prog gl 153 [dS s] (dB (nameB s)):=by
  refine PCall.by_ (md:=[]) Tryz.func153 rfl (by kernel_rfl) (n:=28) Tryz.ntmps153 (by simp) (by decide) rfl ?_
  simp
  refine BrT.dec (fun h=>?_) (fun h=>?_)
  · simp[h,nameB_short (s:=s) (by omega)]
  have h1:0<s.size:=by omega
  simp[h]
  refine BrT.dec (fun h2=>?_) (fun h2=>?_)
  · simp[h,h2,nameB_long (s:=s) (by omega)]
  simp[h,h2,h1]
  refine CallT.p (p_isFigure _) rfl rfl ?_
  simp[h,h2]
  refine BrT.mk (fun hf=>?_) (fun hf=>?_)
  · have:nameB s=false:=by
      rw[nameB,allTo_false h1 (by simp[nameP,not_letter hf])];rfl
    simp[h,h2,hf,this]
  simp[h,h2,hf]
  refine LoopT.round (fun E S=>∃ i:Nat,i≤s.size∧E 0=some (.d (dS s))∧E 18=some (.d (dI s.size))∧E 19=some (.d (dI i))∧(∀ j,j<i→nameP s j=true)) (fun E S=>match E 19 with | some (.d (.v (.int _ i)))=>s.size - i.toNat | _=>0) ⟨0,by simp⟩ ?_
  rintro E S hk ⟨i,hi,h0,h18,h19,hp⟩
  have hn:S.n=28:=by simpa using hk.n
  have hg:S.gl=gl:=by simpa using hk.gl
  have w:IntKind.i64.wrap ((i:Int)+1)=(i:Int)+1:=wrap64 (by omega) (by omega)
  simp[h0,h18,h19,hn]
  refine BrT.dec (fun h3=>?_) (fun h3=>?_)
  · have hi2:i<s.size:=by omega
    simp[h0,h18,h19,hn,hi2]
    have key:(letterB (byteI s i) || figureB (byteI s i))=nameP s i:=by
      by_cases hz:i=0
      · subst hz;simp[nameP,hf]
      · simp[nameP,hz]
    have pw:=p_isWordByte (gl:=gl) (byteI s i)
    rw[key] at pw
    refine CallT.p pw (by first | rfl | simp[hg]) rfl ?_
    simp[h0,h18,h19,hn]
    refine BrT.mk (fun hl=>?_) (fun hl=>?_)
    · simp[h0,h18,h19,hn,hl,w]
      exact⟨⟨i+1,by omega,rfl,next_all hp hl⟩,by omega⟩
    · have hq:nameB s=false:=by rw[nameB,allTo_false hi2 hl];rfl
      simp[h0,h18,h19,hn,hl,hq]
  · have hi3:i=s.size:=by omega
    subst hi3
    have c1:(1:Int)≤s.size:=by omega
    have c2:(s.size:Int)≤12:=by omega
    have hq:nameB s=true:=by simp[nameB,allTo_true hp];omega
    simp[h0,h18,h19,hn,hq]
def idxI (x:ByteArray) (l:List ByteArray):Int:=if l.findIdx (fun y=>decide (x=y))<l.length then (l.findIdx (fun y=>decide (x=y)):Int) else -1
theorem idxI_found {x:ByteArray}{l:List ByteArray}{i:Nat} (hi:i<l.length) (h:∀ j (hj:j<l.length),j<i→x≠l[j]) (he:x=l[i]):idxI x l=i:=by
  have e:l.findIdx (fun y=>decide (x=y))=i:=by
    rw[List.findIdx_eq hi]
    exact⟨by simp[he],fun j hj=>by simpa using h j (by omega) hj⟩
  unfold idxI
  rw[e,if_pos hi]
theorem idxI_none {x:ByteArray}{l:List ByteArray} (h:∀ j (hj:j<l.length),x≠l[j]):idxI x l = -1:=by
  unfold idxI
  rw[if_neg]
  intro hlt
  have:=List.findIdx_getElem (w:=hlt)
  simp at this
  exact h _ hlt this
def memB (x:ByteArray) (l:List ByteArray):Bool:=l.any fun y=>decide (x=y)
theorem memB_iff {x:ByteArray}{l:List ByteArray}:memB x l=true↔x∈l:=by
  simp[memB]
theorem idxI_mem {x:ByteArray}{l:List ByteArray}:decide (0≤idxI x l)=memB x l:=by
  by_cases h:x∈l
  · have hlt:l.findIdx (fun y=>decide (x=y))<l.length:=List.findIdx_lt_length_of_exists ⟨x,h,by simp⟩
    rw[memB_iff.2 h]
    unfold idxI
    rw[if_pos hlt]
    simp
  · have:idxI x l = -1:=idxI_none fun j hj e=>h (e▸List.getElem_mem hj)
    have hb:memB x l=false:=by
      cases hb:memB x l with
      | false=>rfl
      | true=>exact absurd (memB_iff.1 hb) h
    rw[this,hb]
    simp
set_option maxHeartbeats 1000000 in
theorem p_Index (l:List ByteArray) (x:ByteArray) (hl:l.length≤4611686018427387904):PCall Tryz.prog gl 240 [namesD l,dS x] (dI (idxI x l)):=by
  refine PCall.by_ (md:=[]) Tryz.func240 rfl (by kernel_rfl) (n:=19) Tryz.ntmps240 (by simp) (by decide) rfl ?_
  simp
  refine LoopT.round (fun E S=>∃ i:Nat,i≤l.length∧E 0=some (.d (namesD l))∧E 1=some (.d (dS x))∧E 7=some (.d (dI l.length))∧E 8=some (.d (dI i))∧(∀ j (hj:j<l.length),j<i→x≠l[j])) (upTo 8 l.length) ⟨0,by simp⟩ ?_
  rintro E S hk ⟨i,hi,h0,h1,h7,h8,hp⟩
  have hn:S.n=19:=by simpa using hk.n
  have w:IntKind.i64.wrap ((i:Int)+1)=(i:Int)+1:=wrap64 (by omega) (by omega)
  simp[h0,h1,h7,h8,hn]
  refine BrT.dec (fun h=>?_) (fun h=>?_)
  · have hi2:i<l.length:=by omega
    simp[h0,h1,h7,h8,hn,hi2]
    refine BrT.dec (fun he=>?_) (fun he=>?_)
    · simp[h0,h1,h7,h8,hn,idxI_found hi2 hp he]
    · simp[h0,h1,h7,h8,hn,w]
      refine⟨⟨i+1,by omega,rfl,fun j hj hji=>?_⟩,upTo_lt h8 (by simp) hi2⟩
      rcases Nat.lt_or_ge j i with c | c
      · exact hp j hj c
      · have:j=i:=by omega
        subst this;exact he
  · have:idxI x l = -1:=idxI_none fun j hj=>hp j hj (by omega)
    simp[h0,h1,h7,h8,hn,this]
theorem p_Contains (l:List ByteArray) (x:ByteArray) (hl:l.length≤4611686018427387904):PCall Tryz.prog gl 165 [namesD l,dS x] (dB (memB x l)):=by
  refine PCall.by_ (md:=[]) Tryz.func165 rfl (by kernel_rfl) (n:=9) Tryz.ntmps165 (by simp) (by decide) rfl ?_
  simp
  refine CallT.p (p_Index l x hl) rfl rfl ?_
  simp
  rw[← idxI_mem]
def nm (l:List ByteArray) (i:Nat):ByteArray:=l.getD i ⟨#[]⟩
theorem nm_at {l:List ByteArray}{i:Nat} (h:i<l.length):l[i]=nm l i:=by
  unfold nm
  rw[List.getD_eq_getElem?_getD,List.getElem?_eq_getElem h,Option.getD_some]
def onceP (l:List ByteArray) (i:Nat):Bool:=nameB (nm l i)&&allTo (fun k=>!decide (nm l k=nm l i)) i
def onceB (l:List ByteArray):Bool:=allTo (onceP l) l.length
theorem nm_size {l:List ByteArray} (hl:NamesOk l) {i:Nat} (h:i<l.length):(nm l i).size≤4611686018427387904:=by
  rw[← nm_at h];exact hl.2 _ (List.getElem_mem h)
set_option maxHeartbeats 1000000 in
theorem p_l1Once (l:List ByteArray) (hl:NamesOk l):PCall Tryz.prog gl 70 [namesD l] (dB (onceB l)):=by
  refine PCall.by_ (md:=[]) Tryz.func70 rfl (by kernel_rfl) (n:=31) Tryz.ntmps70 (by simp) (by decide) rfl ?_
  have hlen:=hl.1
  simp
  refine LoopT.round (fun E S=>∃ i:Nat,i≤l.length∧E 0=some (.d (namesD l))∧E 3=some (.d (dI i))∧(∀ j,j<i→onceP l j=true)) (upTo 3 l.length) ⟨0,by simp⟩ ?_
  rintro E S hk ⟨i,hi,h0,h3,hp⟩
  have hn:S.n=31:=by simpa using hk.n
  have hg:S.gl=gl:=by simpa using hk.gl
  have w:IntKind.i64.wrap ((i:Int)+1)=(i:Int)+1:=wrap64 (by omega) (by omega)
  simp[h0,h3,hn]
  refine BrT.dec (fun h=>?_) (fun h=>?_)
  · have hi2:i<l.length:=by omega
    have bad:onceP l i=false→onceB l=false:=fun h=>allTo_false hi2 h
    simp[h0,h3,hn,hi2,nm_at]
    refine CallT.p (p_l1Name _ (nm_size hl hi2)) (by first | rfl | simp[hg]) rfl ?_
    simp[h0,h3,hn]
    refine BrT.mk (fun hb=>?_) (fun hb=>?_)
    · simp[h0,h3,hn,hb]
      refine LoopT.round (fun E S=>∃ k:Nat,k≤i∧E 0=some (.d (namesD l))∧E 3=some (.d (dI i))∧E 4=some (.d (dI k))∧(∀ j,j<k→(!decide (nm l j=nm l i))=true)) (upTo 4 i) ⟨0,by simp[h0,h3]⟩ ?_
      rintro E2 S2 hk2 ⟨k,hki,g0,g3,g4,gp⟩
      have gn:S2.n=31:=by have:=hk2.n;simpa[hn] using this
      have w2:IntKind.i64.wrap ((k:Int)+1)=(k:Int)+1:=wrap64 (by omega) (by omega)
      simp[g0,g3,g4,gn]
      refine BrT.dec (fun h=>?_) (fun h=>?_)
      · have hk3:k<i:=by omega
        have hk4:k<l.length:=by omega
        simp[g0,g3,g4,gn,hi2,hk4,nm_at]
        refine⟨DrawT.mk (by kernel_rfl),?_⟩
        refine BrT.dec (fun he=>?_) (fun he=>?_)
        · have:=bad (by unfold onceP;rw[allTo_false hk3 (by simp[he])];simp)
          simp[g0,g3,g4,gn,he,this]
        · simp[g0,g3,g4,gn,he,w2]
          refine⟨⟨k+1,by omega,rfl,fun j hj=>?_⟩,upTo_lt g4 (by simp) hk3⟩
          have:=next_all gp (by simp[he]) j hj
          simpa using this
      · have hk3:k=i:=by omega
        subst hk3
        simp[g0,g3,g4,gn,w]
        refine⟨⟨k+1,by omega,rfl,next_all hp (by unfold onceP;rw[hb,allTo_true gp];rfl)⟩,?_⟩
        exact upTo_lt h3 (by simp) hi2
    · have:=bad (by simp[onceP,hb])
      simp[h0,h3,hn,hb,this]
  · have hi3:i=l.length:=by omega
    subst hi3
    simp[h0,h3,hn,onceB,allTo_true hp]
theorem mem_take {l:List ByteArray}{i:Nat} (hi:i<l.length):memB (nm l i) (l.take i) = !allTo (fun k=>!decide (nm l k=nm l i)) i:=by
  cases hb:allTo (fun k=>!decide (nm l k=nm l i)) i with
  | true =>
    cases hm:memB (nm l i) (l.take i) with
    | false=>rfl
    | true =>
      obtain⟨k,hk,he⟩:=List.getElem_of_mem (memB_iff.1 hm)
      have hk2:k<i:=by simp at hk;omega
      have h2:=allTo_iff.1 hb k hk2
      rw[List.getElem_take,nm_at (by omega)] at he
      simp[he] at h2
  | false =>
    cases hm:memB (nm l i) (l.take i) with
    | true=>rfl
    | false =>
      have:allTo (fun k=>!decide (nm l k=nm l i)) i=true:=allTo_true fun k hk=>by
        cases hd:decide (nm l k=nm l i) with
        | false=>rfl
        | true =>
          have he:=of_decide_eq_true hd
          have hmem:nm l i∈l.take i:=by
            rw[← he, ← nm_at (by omega:k<l.length)]
            exact List.mem_take_iff_getElem.2 ⟨k,by omega,rfl⟩
          rw[memB_iff.2 hmem] at hm;cases hm
      rw[this] at hb;cases hb
set_option maxHeartbeats 1000000 in
theorem p_namesOnce (l:List ByteArray) (hl:NamesOk l):PCall Tryz.prog gl 156 [namesD l] (dB (onceB l)):=by
  refine PCall.by_ (md:=[]) Tryz.func156 rfl (by kernel_rfl) (n:=23) Tryz.ntmps156 (by simp) (by decide) rfl ?_
  have hlen:=hl.1
  simp
  refine LoopT.round (fun E S=>∃ i:Nat,i≤l.length∧E 0=some (.d (namesD l))∧E 5=some (.d (namesD l))∧E 6=some (.d (dI l.length))∧E 7=some (.d (dI i))∧(∀ j,j<i→onceP l j=true)) (upTo 7 l.length) ⟨0,by simp⟩ ?_
  rintro E S hk ⟨i,hi,h0,h5,h6,h7,hp⟩
  have hn:S.n=23:=by simpa using hk.n
  have hg:S.gl=gl:=by simpa using hk.gl
  have w:IntKind.i64.wrap ((i:Int)+1)=(i:Int)+1:=wrap64 (by omega) (by omega)
  simp[h0,h5,h6,h7,hn]
  refine BrT.dec (fun h=>?_) (fun h=>?_)
  · have hi2:i<l.length:=by omega
    have bad:onceP l i=false→onceB l=false:=fun h=>allTo_false hi2 h
    simp[h0,h5,h6,h7,hn,hi2,nm_at]
    refine CallT.p (p_isName _ (nm_size hl hi2)) (by first | rfl | simp[hg]) rfl ?_
    simp[h0,h5,h6,h7,hn]
    refine BrT.mk (fun hb=>?_) (fun hb=>?_)
    · simp[h0,h5,h6,h7,hn,hb]
      refine⟨by omega,?_⟩
      have hc:=p_Contains (gl:=gl) (l.take i) (nm l i) (by simp;omega)
      rw[mem_take hi2] at hc
      refine CallT.p hc (by first | rfl | simp[hg]) (by simp;omega) ?_
      simp[h0,h5,h6,h7,hn,hb]
      refine BrT.mk (fun hd=>?_) (fun hd=>?_)
      · simp[h0,h5,h6,h7,hn,hb,hd,w]
        exact⟨⟨i+1,by omega,rfl,next_all hp (by unfold onceP;rw[hb,hd];rfl)⟩,upTo_lt h7 (by simp) hi2⟩
      · have:=bad (by unfold onceP;rw[hd];simp)
        simp[h0,h5,h6,h7,hn,hb,hd,this]
    · have:=bad (by simp[onceP,hb])
      simp[h0,h5,h6,h7,hn,hb,this]
  · have hi3:i=l.length:=by omega
    subst hi3
    simp[h0,h5,h6,h7,hn,onceB,allTo_true hp]
inductive Val where
  | mk (kind num:Int) (text:ByteArray) (list:List Val) (names:List ByteArray)
  deriving Inhabited
mutual
def Val.cells:Val→List D
  | .mk k n t l ns=>[dI k,dI n,dS t, .ps (valsCells l) l.length,namesD ns]
def valsCells:List Val→List D
  | []=>[]
  | v::r=>v.cells++valsCells r
end
abbrev Val.d (v:Val):D:=.agg v.cells
abbrev valsD (l:List Val):D:=.ps (valsCells l) l.length
theorem cells_len (v:Val):v.cells.length=5:=by cases v;rfl
@[simp] theorem take_cellsS (v:Val):(v.cells.map SV.d).take 5=v.cells.map SV.d:=List.take_of_length_le (by rw[List.length_map,cells_len];exact Nat.le_refl _)
theorem valsCells_row:∀ l:List Val,valsCells l=l.flatMap Val.cells
  | []=>by simp[valsCells]
  | v::r=>by rw[valsCells,valsCells_row r,List.flatMap_cons]
theorem valsCells_len (l:List Val):(valsCells l).length=l.length*5:=by rw[valsCells_row,row_len cells_len]
theorem valsCells_at (l:List Val) {i:Nat} (hi:i<l.length):((valsCells l).drop (i*5)).take 5=(l[i]).cells:=by rw[valsCells_row,row_at cells_len l i hi]
inductive WF:Val→Prop
  | mk {k n:Int} {t:ByteArray} {l:List Val} {ns:List ByteArray} (ht:t.size≤4611686018427387904) (hn:NamesOk ns) (hl:l.length≤4611686018427387904) (h:∀ v∈l,WF v):WF (.mk k n t l ns)
def plainB (k n:Int) (t:ByteArray) (ll ln:Nat):Bool :=
  if k=0 then decide (n=0)&&decide (t=⟨#[]⟩)&&decide ((ll:Int)+ln=0)
  else if k=1 then decide (0≤n)&&decide (n≤1)&&decide (t=⟨#[]⟩)&&decide ((ll:Int)+ln=0)
  else if k=2 then decide (-2147483647≤n)&&decide (n≤2147483647)&&decide (t=⟨#[]⟩)&&decide ((ll:Int)+ln=0)
  else if k=3 then decide (n=0)&&decide ((t.size:Int)≤40)&&decide ((ll:Int)+ln=0)
  else if k=4 then decide (n=0)&&decide (t=⟨#[]⟩)&&decide ((ln:Int)=0)&&decide ((ll:Int)≤12)
  else if k=5 then decide (n=0)&&decide (t=⟨#[]⟩)&&decide ((ln:Int)=ll)&&decide ((ll:Int)≤12)
  else if k=6∨k=7 then decide (n=0)&&nameB t&&decide ((ll:Int)+ln=0)
  else false
set_option maxHeartbeats 4000000 in
theorem p_l1Plain (k n:Int) (t:ByteArray) (l:List Val) (ns:List ByteArray) (ht:t.size≤4611686018427387904) (hl:l.length≤4611686018427387904) (hn:ns.length≤4611686018427387903):PCall Tryz.prog gl 190 [(Val.mk k n t l ns).d] (dB (plainB k n t l.length ns.length)):=by
  refine PCall.by_ (md:=[]) Tryz.func190 rfl (by kernel_rfl) (n:=154) Tryz.ntmps190 (by simp) (by decide) rfl ?_
  have w:IntKind.i64.wrap ((l.length:Int)+ns.length)=(l.length:Int)+ns.length:=wrap64 (by omega) (by omega)
  simp[Val.cells]
  repeat' first
    | (refine BrT.dec (fun h=>?_) (fun h=>?_)<;>simp[h,Val.cells,w])
    | (refine CallT.p (p_l1In _ _ _) rfl rfl ?_;simp[Val.cells,w])
    | (refine CallT.p (p_l1Name _ ht) rfl rfl ?_;simp[Val.cells,w])
    | (refine BrT.mk (fun h=>?_) (fun h=>?_)<;>simp[h,Val.cells,w])
  all_goals (clear w ht hl hn;simp[plainB, *])
def formB (k n:Int) (t:ByteArray) (ll:Nat) (ns:List ByteArray):Bool:=plainB k n t ll ns.length&&(!decide (k=5) || onceB ns)
def itemIn (k n:Int) (t:ByteArray) (l:List Val) (ns:List ByteArray):D :=
  if k=0 then .ifc 281 (.agg [])
  else if k=1 then .ifc 282 (dB (decide (n=1)))
  else if k=2 then .ifc 283 (dI n)
  else if k=3 then .ifc 284 (dS t)
  else if k=4 then .ifc 285 (valsD l)
  else if k=5 then .ifc 287 (.agg [namesD ns,valsD l])
  else if k=6 then .ifc 208 (dS t)
  else .ifc 209 (dS t)
def itemD (k n:Int) (t:ByteArray) (l:List Val) (ns:List ByteArray):D:=if formB k n t l.length ns=true then itemIn k n t l ns else .v .nilIface
theorem len0 (l:List Val) (ns:List ByteArray):((l.length:Int)+ns.length=0)↔l=[]∧ns=[]:=by
  rw[← List.length_eq_zero_iff, ← List.length_eq_zero_iff]
  omega
set_option maxHeartbeats 8000000 in
theorem p_itemOf (k n:Int) (t:ByteArray) (l:List Val) (ns:List ByteArray) (ht:t.size≤4611686018427387904) (hl:l.length≤4611686018427387904) (hn:NamesOk ns):PCall Tryz.prog gl 172 [(Val.mk k n t l ns).d] (itemD k n t l ns):=by
  refine PCall.by_ (md:=[]) Tryz.func172 rfl (by kernel_rfl) (n:=171) Tryz.ntmps172 (by simp) (by decide) rfl ?_
  simp[Val.cells]
  repeat' first
    | (refine BrT.dec (fun h=>?_) (fun h=>?_)<;>simp[h,Val.cells])
    | (refine CallT.p (p_isName _ ht) rfl rfl ?_;simp[Val.cells])
    | (refine CallT.p (p_namesOnce _ hn) rfl rfl ?_;simp[Val.cells])
    | (refine CallT.p (p_namesOnce [] ⟨by simp,by simp⟩) rfl rfl ?_;simp[Val.cells])
    | (refine BrT.mk (fun h=>?_) (fun h=>?_)<;>simp[h,Val.cells])
  all_goals try (clear ht hl hn;simp[itemD,itemIn,formB,plainB,len0, *];done)
  all_goals try (clear ht hl hn;simp[itemD,itemIn,formB,plainB,len0, *];intros;omega)
mutual
def okB:Val→Int→Bool→Bool
  | .mk k n t l ns,deep,words=>!decide (deep<1)&&plainB k n t l.length ns.length && !(!words&&decide (5<k))&&onceB ns&&oksB l (deep - 1) words
def oksB:List Val→Int→Bool→Bool
  | [],_,_=>true
  | v::r,deep,words=>okB v deep words&&oksB r deep words
end
def vl (l:List Val) (i:Nat):Val:=l.getD i default
theorem oksB_all {d:Int}{w:Bool}:∀ l:List Val,oksB l d w=allTo (fun i=>okB (vl l i) d w) l.length
  | []=>by simp[oksB,allTo]
  | v::r=>by
    rw[oksB,oksB_all r,Bool.eq_iff_iff,Bool.and_eq_true,allTo_iff,allTo_iff]
    constructor
    · rintro ⟨h1,h2⟩ j hj
      cases j with
      | zero=>exact h1
      | succ j=>exact h2 j (by simpa using hj)
    · intro h
      exact⟨h 0 (by simp),fun j hj=>h (j+1) (by simpa using hj)⟩
theorem val_at {l:List Val}{i:Nat} (h:i<l.length):vl l i=l[i]:=by
  unfold vl
  rw[List.getD_eq_getElem?_getD,List.getElem?_eq_getElem h,Option.getD_some]
set_option maxHeartbeats 4000000 in
theorem p_l1Ok (v:Val) (hv:WF v) (deep:Int) (words:Bool) (hd : -4611686018427387904≤deep) (hd2:deep≤4611686018427387904):PCall Tryz.prog gl 97 [v.d,dI deep,dB words] (dB (okB v deep words)):=by
  match v,hv with
  | .mk k n t l ns, .mk ht hn hl hwf =>
    have ih:∀ i (hi:i<l.length) (deep:Int), -4611686018427387904≤deep→deep≤4611686018427387904→PCall Tryz.prog gl 97 [l[i].d,dI deep,dB words] (dB (okB l[i] deep words)):=fun i hi deep a b =>
      have:=List.sizeOf_lt_of_mem (List.getElem_mem hi)
      p_l1Ok l[i] (hwf _ (List.getElem_mem hi)) deep words a b
    refine PCall.by_ (md:=[]) Tryz.func97 rfl (by kernel_rfl) (n:=47) Tryz.ntmps97 (by simp) (by decide) rfl ?_
    have hnl:=hn.1
    simp[Val.cells]
    repeat' first
      | (refine BrT.dec (fun h=>?_) (fun h=>?_)<;>simp[h,Val.cells])
      | (refine CallT.p (p_l1Plain k n t l ns ht hl hnl) rfl rfl ?_;simp[Val.cells])
      | (refine CallT.p (p_l1Once ns hn) rfl rfl ?_;simp[Val.cells])
      | (refine BrT.mk (fun h=>?_) (fun h=>?_)<;>simp[h,Val.cells])
    all_goals try (clear ih hwf hv hn ht hl hnl;simp[okB, *];done)
    all_goals
      have hok:okB (.mk k n t l ns) deep words=oksB l (deep - 1) words:=by clear ih hwf hv hn ht hl hnl;simp[okB, *]
      have hd1:1≤deep:=by omega
      have w1:IntKind.i64.wrap (deep - 1)=deep - 1:=wrap64 (by omega) (by omega)
      refine LoopT.round (fun E S=>∃ i:Nat,i≤l.length∧E 1=some (.d (dI deep))∧E 2=some (.d (dB words))∧E 3=some (.op 0 0)∧E 7=some (.d (dI i))∧S.B 0=some [.d (dI k), .d (dI n), .d (dS t), .d (.ps (valsCells l) l.length), .d (namesD ns)]∧(∀ j,j<i→okB (vl l j) (deep - 1) words=true)) (upTo 7 l.length) ⟨0,by clear ih hwf hv hn ht hl hnl hok;simp[*]⟩ ?_
      rintro E S hk ⟨i,hi,h1,h2,h3,h7,hB,hp⟩
      have gn:S.n=47:=by simpa using hk.n
      have hg:S.gl=gl:=by simpa using hk.gl
      have w:IntKind.i64.wrap ((i:Int)+1)=(i:Int)+1:=wrap64 (by omega) (by omega)
      simp[h1,h2,h3,h7,hB,gn]
      refine BrT.dec (fun h=>?_) (fun h=>?_)
      · have hi2:i<l.length:=by omega
        have hlen:=valsCells_len l
        have hfit:i*5+5≤l.length*5:=by omega
        simp[h1,h2,h3,h7,hB,gn,hi2,hlen,hfit,valsCells_at,w1]
        refine CallT.p (ih i hi2 (deep - 1) (by omega) (by omega)) (by first | rfl | simp[hg]) rfl ?_
        simp[h1,h2,h3,h7,hB,gn]
        refine BrT.mk (fun hb=>?_) (fun hb=>?_)
        · simp[h1,h2,h3,h7,hB,gn,hb,w]
          exact⟨⟨i+1,by omega,rfl,next_all hp (by rw[val_at hi2];exact hb)⟩,upTo_lt h7 (by simp) hi2⟩
        · have:oksB l (deep - 1) words=false:=by rw[oksB_all,allTo_false hi2 (by rw[val_at hi2];exact hb)]
          have fin:=hok.trans this
          clear hok this
          simp[h1,h2,h3,h7,hB,gn,hb]
          first | (simpa[‹words=true›] using fin)|(simpa[‹words=false›] using fin)
      · have hi3:i=l.length:=by omega
        have:oksB l (deep - 1) words=true:=by rw[oksB_all];exact allTo_true (fun j hj=>hp j (by omega))
        have fin:=hok.trans this
        clear hok this
        simp[h1,h2,h3,h7,hB,gn]
        first | (simpa[‹words=true›] using fin)|(simpa[‹words=false›] using fin)
  termination_by SizeOf.sizeOf v
  decreasing_by
  simp_wf
  omega
theorem p_nullWithin:PCall Tryz.prog gl 370 [.agg []] (.ps [] 0):=by
  refine PCall.by_ (md:=[]) Tryz.func370 rfl (by kernel_rfl) (n:=3) Tryz.ntmps370 (by simp) (by decide) rfl ?_
  simp
theorem p_boolWithin (b:Bool):PCall Tryz.prog gl 371 [dB b] (.ps [] 0):=by
  refine PCall.by_ (md:=[]) Tryz.func371 rfl (by kernel_rfl) (n:=3) Tryz.ntmps371 (by simp) (by decide) rfl ?_
  simp
theorem p_numWithin (n:Int):PCall Tryz.prog gl 372 [dI n] (.ps [] 0):=by
  refine PCall.by_ (md:=[]) Tryz.func372 rfl (by kernel_rfl) (n:=3) Tryz.ntmps372 (by simp) (by decide) rfl ?_
  simp
theorem p_textWithin (s:ByteArray):PCall Tryz.prog gl 373 [dS s] (.ps [] 0):=by
  refine PCall.by_ (md:=[]) Tryz.func373 rfl (by kernel_rfl) (n:=3) Tryz.ntmps373 (by simp) (by decide) rfl ?_
  simp
theorem p_listWithin (l:List Val):PCall Tryz.prog gl 374 [valsD l] (valsD l):=by
  refine PCall.by_ (md:=[]) Tryz.func374 rfl (by kernel_rfl) (n:=4) Tryz.ntmps374 (by simp) (by decide) rfl ?_
  simp
theorem p_treeWithin (ns:List ByteArray) (l:List Val):PCall Tryz.prog gl 375 [.agg [namesD ns,valsD l]] (valsD l):=by
  refine PCall.by_ (md:=[]) Tryz.func375 rfl (by kernel_rfl) (n:=5) Tryz.ntmps375 (by simp) (by decide) rfl ?_
  simp
theorem plain_kind {k n:Int}{t:ByteArray}{ll ln:Nat} (h:plainB k n t ll ln=true):k=0∨k=1∨k=2∨k=3∨k=4∨k=5∨k=6∨k=7:=by
  by_cases h0:k=0; · exact .inl h0
  by_cases h1:k=1; · exact .inr (.inl h1)
  by_cases h2:k=2; · exact .inr (.inr (.inl h2))
  by_cases h3:k=3; · exact .inr (.inr (.inr (.inl h3)))
  by_cases h4:k=4; · exact .inr (.inr (.inr (.inr (.inl h4))))
  by_cases h5:k=5; · exact .inr (.inr (.inr (.inr (.inr (.inl h5)))))
  by_cases h6:k=6; · exact .inr (.inr (.inr (.inr (.inr (.inr (.inl h6))))))
  by_cases h7:k=7; · exact .inr (.inr (.inr (.inr (.inr (.inr (.inr h7))))))
  simp[plainB,h0,h1,h2,h3,h4,h5,h6,h7] at h
theorem p_within {k n:Int}{t:ByteArray}{l:List Val}{ns:List ByteArray} (hf:formB k n t l.length ns=true) (hk:¬ 5<k) :
    ∃ T x g, itemD k n t l ns = .ifc T x ∧ T ≠ 208 ∧ T ≠ 209 ∧ methOf Tryz.prog T "loop.example/pergola/impl.within" = some g ∧ PCall Tryz.prog gl g [x] (valsD l) := by
  have hp:plainB k n t l.length ns.length=true:=by simp only[formB,Bool.and_eq_true] at hf;exact hf.1
  unfold itemD
  rw[if_pos hf]
  have nil:∀ (hs:((l.length:Int)+ns.length=0)),valsD l=.ps [] 0:=fun hs=>by
    obtain⟨rfl,_⟩:=(len0 l ns).1 hs
    rfl
  rcases plain_kind hp with rfl | rfl | rfl | rfl | rfl | rfl | rfl | rfl
  · have:=nil (by simp[plainB] at hp;exact_mod_cast hp.2)
    rw[this]
    exact⟨281, .agg [],370,rfl,by decide,by decide,by kernel_rfl,p_nullWithin⟩
  · have:=nil (by simp[plainB] at hp;exact_mod_cast hp.2)
    rw[this]
    exact⟨282,_,371,rfl,by decide,by decide,by kernel_rfl,p_boolWithin _⟩
  · have:=nil (by simp[plainB] at hp;exact_mod_cast hp.2)
    rw[this]
    exact⟨283,_,372,rfl,by decide,by decide,by kernel_rfl,p_numWithin _⟩
  · have:=nil (by simp[plainB] at hp;exact_mod_cast hp.2)
    rw[this]
    exact⟨284,_,373,rfl,by decide,by decide,by kernel_rfl,p_textWithin _⟩
  · exact⟨285,_,374,rfl,by decide,by decide,by kernel_rfl,p_listWithin l⟩
  · exact⟨287,_,375,rfl,by decide,by decide,by kernel_rfl,p_treeWithin ns l⟩
  · omega
  · omega
theorem onceB_nil:onceB []=true:=rfl
theorem plain_names {k n:Int}{t:ByteArray}{l:List Val}{ns:List ByteArray} (h:plainB k n t l.length ns.length=true) (h5:k≠5):ns=[]:=by
  have hs:((l.length:Int)+ns.length=0)→ns=[]:=fun h=>((len0 l ns).1 h).2
  rcases plain_kind h with rfl | rfl | rfl | rfl | rfl | rfl | rfl | rfl
  · exact hs (by simp[plainB] at h;exact_mod_cast h.2)
  · exact hs (by simp[plainB] at h;exact_mod_cast h.2)
  · exact hs (by simp[plainB] at h;exact_mod_cast h.2)
  · exact hs (by simp[plainB] at h;exact_mod_cast h.2)
  · simp[plainB] at h;exact h.1.2
  · exact absurd rfl h5
  · exact hs (by simp[plainB] at h;exact_mod_cast h.2)
  · exact hs (by simp[plainB] at h;exact_mod_cast h.2)
theorem form_eq {k n:Int}{t:ByteArray}{l:List Val}{ns:List ByteArray}:formB k n t l.length ns=(plainB k n t l.length ns.length&&onceB ns):=by
  unfold formB
  cases hp:plainB k n t l.length ns.length with
  | false=>rfl
  | true =>
    by_cases h5:k=5
    · simp[h5]
    · have:=plain_names hp h5
      subst this
      simp[h5,onceB_nil]
theorem ok_form {k n:Int}{t:ByteArray}{l:List Val}{ns:List ByteArray}{deep:Int}{words:Bool} (h:formB k n t l.length ns=false):okB (.mk k n t l ns) deep words=false:=by
  rw[form_eq,Bool.and_eq_false_iff] at h
  rcases h with h | h<;>simp[okB,h]
theorem ok_in {k n:Int}{t:ByteArray}{l:List Val}{ns:List ByteArray}{deep:Int}{words:Bool} (h:formB k n t l.length ns=true) (hd:¬ deep<1) (hk:¬ 5<k):okB (.mk k n t l ns) deep words=oksB l (deep - 1) words:=by
  rw[form_eq,Bool.and_eq_true] at h
  simp[okB,h,hd,hk]
theorem ok_word {k n:Int}{t:ByteArray}{l:List Val}{ns:List ByteArray}{deep:Int}{words:Bool} (h:formB k n t l.length ns=true) (hd:¬ deep<1) (hk:5<k):okB (.mk k n t l ns) deep words=words∧(k=6∨k=7):=by
  rw[form_eq,Bool.and_eq_true] at h
  have hk2:k=6∨k=7:=by
    rcases plain_kind h.1 with rfl | rfl | rfl | rfl | rfl | rfl | rfl | rfl<;>first | omega | simp
  have hl:l=[]:=by
    have hp:=h.1
    rcases hk2 with rfl | rfl
    · exact ((len0 l ns).1 (by simp[plainB] at hp;exact_mod_cast hp.2)).1
    · exact ((len0 l ns).1 (by simp[plainB] at hp;exact_mod_cast hp.2)).1
  subst hl
  refine⟨?_,hk2⟩
  cases words<;>simp[okB,h,hd,hk,oksB]<;>(try exact h.1)
set_option maxHeartbeats 4000000 in
theorem p_fitsIn (v:Val) (hv:WF v) (most:Int) (free:Bool) (hd : -4611686018427387904≤most) (hd2:most≤4611686018427387904):PCall Tryz.prog gl 77 [v.d,dI most,dB free] (dB (okB v most free)):=by
  match v,hv with
  | .mk k n t l ns, .mk ht hn hl hwf =>
    have ih:∀ i (hi:i<l.length) (deep:Int), -4611686018427387904≤deep→deep≤4611686018427387904→PCall Tryz.prog gl 77 [l[i].d,dI deep,dB free] (dB (okB l[i] deep free)):=fun i hi deep a b =>
      have:=List.sizeOf_lt_of_mem (List.getElem_mem hi)
      p_fitsIn l[i] (hwf _ (List.getElem_mem hi)) deep free a b
    refine PCall.by_ (md:=[]) Tryz.func77 rfl (by kernel_rfl) (n:=38) Tryz.ntmps77 (by simp) (by decide) rfl ?_
    simp[Val.cells]
    refine BrT.dec (fun h=>?_) (fun h=>?_)
    · simp[h,okB]
    simp[h,Val.cells]
    have hc:=p_itemOf (gl:=gl) k n t l ns ht hl hn
    by_cases hf:formB k n t l.length ns=true
    case neg =>
      have hi:itemD k n t l ns=.v .nilIface:=if_neg hf
      rw[hi] at hc
      refine CallT.p hc rfl rfl ?_
      simp[ok_form (deep:=most) (words:=free) (by simpa using hf)]
    by_cases hk:5<k
    case pos =>
      obtain⟨h1,h2⟩:=ok_word (words:=free) hf h hk
      rcases h2 with rfl | rfl
      · have hi:itemD 6 n t l ns=.ifc 208 (dS t):=if_pos hf
        rw[hi] at hc
        refine CallT.p hc rfl rfl ?_
        simp[h1]
      · have hi:itemD 7 n t l ns=.ifc 209 (dS t):=if_pos hf
        rw[hi] at hc
        refine CallT.p hc rfl rfl ?_
        simp[h1]
    obtain⟨T,x,g,hi,hT1,hT2,hm,hg⟩:=p_within (gl:=gl) hf hk
    rw[hi] at hc
    refine CallT.p hc rfl rfl ?_
    simp[hT1,hT2]
    refine InvT.p hg (by simp) hm rfl ?_
    simp
    have hok:=ok_in (words:=free) hf h hk
    have w1:IntKind.i64.wrap (most - 1)=most - 1:=wrap64 (by omega) (by omega)
    refine LoopT.round (fun E S=>∃ i:Nat,i≤l.length∧E 1=some (.d (dI most))∧E 2=some (.d (dB free))∧E 25=some (.d (valsD l))∧E 26=some (.d (dI l.length))∧E 27=some (.d (dI i))∧(∀ j,j<i→okB (vl l j) (most - 1) free=true)) (upTo 27 l.length) ⟨0,by simp⟩ ?_
    rintro E S hk ⟨i,hi,h1,h2,h25,h26,h27,hp⟩
    have gn:S.n=38:=by simpa using hk.n
    have hgl:S.gl=gl:=by simpa using hk.gl
    have w:IntKind.i64.wrap ((i:Int)+1)=(i:Int)+1:=wrap64 (by omega) (by omega)
    simp[h1,h2,h25,h26,h27,gn]
    refine BrT.dec (fun h=>?_) (fun h=>?_)
    · have hi2:i<l.length:=by omega
      have hlen:=valsCells_len l
      have hfit:i*5+5≤l.length*5:=by omega
      simp[h1,h2,h25,h26,h27,gn,hi2,hlen,hfit,valsCells_at,w1,cells_len]
      refine CallT.p (ih i hi2 (most - 1) (by omega) (by omega)) (by first | rfl | simp[hgl]) (by simp) ?_
      simp[h1,h2,h25,h26,h27,gn]
      refine BrT.mk (fun hb=>?_) (fun hb=>?_)
      · simp[h1,h2,h25,h26,h27,gn,hb,w]
        exact⟨⟨i+1,by omega,rfl,next_all hp (by rw[val_at hi2];exact hb)⟩,upTo_lt h27 (by simp) hi2⟩
      · have:oksB l (most - 1) free=false:=by rw[oksB_all,allTo_false hi2 (by rw[val_at hi2];exact hb)]
        simp[h1,h2,h25,h26,h27,gn,hb,hok,this]
    · have hi3:i=l.length:=by omega
      have:oksB l (most - 1) free=true:=by rw[oksB_all];exact allTo_true (fun j hj=>hp j (by omega))
      simp[h1,h2,h25,h26,h27,gn,hok,this]
  termination_by SizeOf.sizeOf v
  decreasing_by
  simp_wf
  omega
inductive Small:Val→Prop
  | mk {k n:Int} {t:ByteArray} {l:List Val} {ns:List ByteArray} (ht:t.size≤1048576) (hn:ns.length≤1048576) (hns:∀ s∈ns,s.size≤1048576) (hl:l.length≤1048576) (h:∀ v∈l,Small v):Small (.mk k n t l ns)
theorem small_wf {v:Val} (h:Small v):WF v:=by
  match v,h with
  | .mk k n t l ns, .mk ht hn hns hl h =>
    exact .mk (by omega) ⟨by omega,fun s hs=>by have:=hns s hs;omega⟩ (by omega) fun x hx=>small_wf (h x hx)
  termination_by SizeOf.sizeOf v
  decreasing_by
    have:=List.sizeOf_lt_of_mem hx
    simp;omega
inductive Sk where
  | d (v:Value)
  | nil
  | row (z:Option Nat) (n:Nat) (cs:List Sk)
inductive Ld where
  | d (v:Value)
  | nil
  | row (z:Option Nat) (b n:Nat) (cs:List Ld)
def rowV (z:Option Nat) (b n:Nat):SV:=match z with | none=>.os b 0 n | some sz=>.sk b n sz
@[simp] theorem rowV_none (b n:Nat):rowV none b n=.os b 0 n:=(rfl)
@[simp] theorem rowV_some (b n sz:Nat):rowV (some sz) b n=.sk b n sz:=(rfl)
def Ld.sv:Ld→SV
  | .d v=>.d (.v v)
  | .nil=>.fl [] 0
  | .row z b n _=>rowV z b n
@[simp] theorem Ld.sv_d (v:Value):(Ld.d v).sv=.d (.v v):=(rfl)
@[simp] theorem Ld.sv_nil:Ld.nil.sv=.fl [] 0:=(rfl)
@[simp] theorem Ld.sv_row (z:Option Nat) (b n:Nat) (cs:List Ld):(Ld.row z b n cs).sv=rowV z b n:=(rfl)
def svs (cs:List Ld):List SV:=cs.map Ld.sv
@[simp] theorem svs_len (cs:List Ld):(svs cs).length=cs.length:=List.length_map ..
@[simp] theorem svs_nil:svs []=[]:=(rfl)
@[simp] theorem svs_cons (x:Ld) (cs:List Ld):svs (x::cs)=x.sv::svs cs:=(rfl)
@[simp] theorem svs_app (a b:List Ld):svs (a++b)=svs a++svs b:=List.map_append ..
mutual
def Ld.sh:Ld→Sk
  | .d v=>.d v
  | .nil=>.nil
  | .row z _ n cs=>.row z n (shs cs)
def shs:List Ld→List Sk
  | []=>[]
  | x::r=>x.sh::shs r
end
mutual
def Ld.vars:Ld→List (Nat×List SV)
  | .d _=>[]
  | .nil=>[]
  | .row _ b _ cs=>(b,svs cs)::varsL cs
def varsL:List Ld→List (Nat×List SV)
  | []=>[]
  | x::r=>x.vars++varsL r
end
mutual
def Sk.cnt:Sk→Nat
  | .d _=>0
  | .nil=>0
  | .row _ _ cs=>1+cntL cs
def cntL:List Sk→Nat
  | []=>0
  | x::r=>x.cnt+cntL r
end
mutual
def Sk.can (k:Nat):Sk→Ld
  | .d v=>.d v
  | .nil=>.nil
  | .row z n cs=>.row z k n (canL (k+1) cs)
def canL (k:Nat):List Sk→List Ld
  | []=>[]
  | x::r=>x.can k::canL (k+x.cnt) r
end
mutual
def Sk.data:Sk→D
  | .d v=>.v v
  | .nil=>.ps [] 0
  | .row _ n cs=>.ps (dataL cs) n
def dataL:List Sk→List D
  | []=>[]
  | x::r=>x.data::dataL r
end
@[simp] theorem shs_len:∀ cs:List Ld,(shs cs).length=cs.length
  | []=>rfl
  | x::r=>by simp[shs,shs_len r]
theorem shs_app:∀ a b:List Ld,shs (a++b)=shs a++shs b
  | [],b=>rfl
  | x::r,b=>by simp[shs,shs_app r b]
theorem varsL_app:∀ a b:List Ld,varsL (a++b)=varsL a++varsL b
  | [],b=>rfl
  | x::r,b=>by simp[varsL,varsL_app r b]
theorem dataL_app:∀ a b:List Sk,dataL (a++b)=dataL a++dataL b
  | [],b=>rfl
  | x::r,b=>by simp[dataL,dataL_app r b]
theorem can_sv (k m:Nat) (x:Sk):(x.can k).sv.shift m=(x.can (m+k)).sv:=by
  cases x with
  | d v=>simp[Sk.can]
  | nil=>simp[Sk.can]
  | row z n cs=>cases z<;>simp[Sk.can,SV.shift]
theorem canL_svs (m:Nat):∀ (k:Nat) (cs:List Sk),(svs (canL k cs)).map (SV.shift m)=svs (canL (m+k) cs)
  | k,[]=>by simp[canL]
  | k,x::r=>by
    simp[canL,can_sv,canL_svs m (k+x.cnt) r,Nat.add_assoc]
abbrev shV (m:Nat) (p:Nat×List SV):Nat×List SV:=(m+p.1,p.2.map (SV.shift m))
mutual
theorem can_vars (m:Nat):∀ (k:Nat) (x:Sk),(x.can k).vars.map (shV m)=(x.can (m+k)).vars
  | k, .d v=>by simp[Sk.can,Ld.vars]
  | k, .nil=>by simp[Sk.can,Ld.vars]
  | k, .row z n cs=>by
    have h1:=canL_svs m (k+1) cs
    have h2:=canL_vars m (k+1) cs
    simp only[Sk.can,Ld.vars,List.map_cons,shV,h1,h2,Nat.add_assoc]
theorem canL_vars (m:Nat):∀ (k:Nat) (cs:List Sk),(varsL (canL k cs)).map (shV m)=varsL (canL (m+k) cs)
  | k,[]=>by simp[canL,varsL]
  | k,x::r=>by
    simp only[canL,varsL,List.map_append,can_vars m k x,canL_vars m (k+x.cnt) r,Nat.add_assoc]
end
mutual
theorem can_ids:∀ (k:Nat) (x:Sk),(x.can k).vars.map (·.1)=(List.range x.cnt).map (k + ·)
  | k, .d v=>by simp[Sk.can,Ld.vars,Sk.cnt]
  | k, .nil=>by simp[Sk.can,Ld.vars,Sk.cnt]
  | k, .row z n cs=>by
    simp only[Sk.can,Ld.vars,List.map_cons,Sk.cnt,canL_ids (k+1) cs]
    rw[Nat.add_comm 1,List.range_succ_eq_map]
    simp only[List.map_cons,List.map_map,Nat.add_zero,List.cons.injEq,true_and]
    refine List.map_congr_left fun i _=>?_
    simp only[Function.comp_apply];omega
theorem canL_ids:∀ (k:Nat) (cs:List Sk),(varsL (canL k cs)).map (·.1)=(List.range (cntL cs)).map (k + ·)
  | k,[]=>by simp[canL,varsL,cntL]
  | k,x::r=>by
    simp only[canL,varsL,List.map_append,can_ids k x,canL_ids (k+x.cnt) r,cntL]
    rw[List.range_add,List.map_append,List.map_map]
    congr 1
    refine List.map_congr_left fun i _=>?_
    simp only[Function.comp_apply];omega
end
theorem canL_nodup (k:Nat) (cs:List Sk):((varsL (canL k cs)).map (·.1)).Nodup:=by
  rw[canL_ids]
  refine List.Pairwise.map _ (R:=(·≠·)) (fun a b h=>by omega) List.nodup_range
theorem canL_rng {k:Nat}{cs:List Sk}{p:Nat×List SV} (h:p∈varsL (canL k cs)):k≤p.1∧p.1<k+cntL cs:=by
  have:p.1∈(varsL (canL k cs)).map (·.1):=List.mem_map_of_mem h
  rw[canL_ids] at this
  obtain⟨i,h1,h2⟩:=List.mem_map.1 this
  have:=List.mem_range.1 h1
  omega
theorem lookN_of {V:List (Nat×List SV)} (hd:(V.map (·.1)).Nodup) {p:Nat×List SV} (h:p∈V):lookN V p.1=some p.2:=by
  induction V with
  | nil=>simp at h
  | cons q V ih =>
    simp only[List.map_cons,List.nodup_cons] at hd
    have e:lookN (q::V) p.1=if p.1=q.1 then some q.2 else lookN V p.1:=rfl
    rw[e]
    rcases List.mem_cons.1 h with h1 | h1
    · subst h1;exact if_pos rfl
    · rw[if_neg fun e=>hd.1 (List.mem_map.2 ⟨p,h1,e⟩)]
      exact ih hd.2 h1
structure At (S:St) (lo hi:Nat) (cs:List Ld):Prop where
  has:∀ p∈varsL cs,S.B p.1=some p.2
  nodup:((varsL cs).map (·.1)).Nodup
  rng:∀ p∈varsL cs,lo≤p.1∧p.1<hi
theorem At.nil {S:St}{lo hi:Nat}:At S lo hi []:=⟨by simp[varsL],by simp[varsL],by simp[varsL]⟩
theorem At.app {S:St}{lo mid hi:Nat}{a b:List Ld} (ha:At S lo mid a) (hb:At S mid hi b) (h1:lo≤mid) (h2:mid≤hi):At S lo hi (a++b):=by
  refine⟨fun p hp=>?_,?_,fun p hp=>?_⟩
  · rw[varsL_app] at hp
    rcases List.mem_append.1 hp with hp | hp
    · exact ha.has p hp
    · exact hb.has p hp
  · rw[varsL_app,List.map_append]
    refine List.nodup_append.2 ⟨ha.nodup,hb.nodup,fun x hx y hy e=>?_⟩
    obtain⟨p,hp,rfl⟩:=List.mem_map.1 hx
    obtain⟨q,hq,rfl⟩:=List.mem_map.1 hy
    have:=ha.rng p hp
    have:=hb.rng q hq
    omega
  · rw[varsL_app] at hp
    rcases List.mem_append.1 hp with hp | hp
    · have:=ha.rng p hp;omega
    · have:=hb.rng p hp;omega
theorem At.le {S:St}{lo hi lo' hi':Nat}{a:List Ld} (ha:At S lo hi a) (h1:lo'≤lo) (h2:hi≤hi'):At S lo' hi' a:=⟨ha.has,ha.nodup,fun p hp=>by have:=ha.rng p hp;omega⟩
theorem At.keep {S S':St}{lo hi:Nat}{a:List Ld} (ha:At S lo hi a) (h:∀ b,lo≤b→b<hi→S'.B b=S.B b):At S' lo hi a :=
  ⟨fun p hp=>by have:=ha.rng p hp;rw[h _ this.1 this.2];exact ha.has p hp,ha.nodup,ha.rng⟩
theorem At.row {S:St}{lo hi b n:Nat}{z:Option Nat}{cs:List Ld} (hb:S.B b=some (svs cs)) (hlo:lo≤b) (hhi:b<hi) (hc:At S lo hi cs) (hn:∀ p∈varsL cs,p.1≠b):At S lo hi [.row z b n cs]:=by
  refine⟨fun p hp=>?_,?_,fun p hp=>?_⟩
  · simp only[varsL,Ld.vars,List.append_nil,List.mem_cons] at hp
    rcases hp with rfl | hp
    · exact hb
    · exact hc.has p hp
  · simp only[varsL,Ld.vars,List.append_nil,List.map_cons,List.nodup_cons]
    refine⟨fun h=>?_,hc.nodup⟩
    obtain⟨p,hp,e⟩:=List.mem_map.1 h
    exact hn p hp e
  · simp only[varsL,Ld.vars,List.append_nil,List.mem_cons] at hp
    rcases hp with rfl | hp
    · exact⟨hlo,hhi⟩
    · exact hc.rng p hp
theorem At.cons_d {S:St}{lo hi:Nat}{v:Value}{cs:List Ld} (h:At S lo hi cs):At S lo hi (.d v::cs):=⟨by simpa[varsL,Ld.vars] using h.has,by simpa[varsL,Ld.vars] using h.nodup,by simpa[varsL,Ld.vars] using h.rng⟩
theorem At.cons_nil {S:St}{lo hi:Nat}{cs:List Ld} (h:At S lo hi cs):At S lo hi (.nil::cs):=⟨by simpa[varsL,Ld.vars] using h.has,by simpa[varsL,Ld.vars] using h.nodup,by simpa[varsL,Ld.vars] using h.rng⟩
mutual
def Sk.dep:Sk→Nat
  | .d _=>0
  | .nil=>0
  | .row _ _ cs=>depL cs+1
def depL:List Sk→Nat
  | []=>0
  | x::r=>max x.dep (depL r)
end
mutual
theorem frz_ld {B:Nat→Option (List SV)}:∀ (x:Ld) (k:Nat),(∀ p∈x.vars,B p.1=some p.2)→x.sh.dep<k→frz B k x.sv=some x.sh.data∧frzv B k x.sv=some x.sh.data
  | .d v,k+1,_,_=>by simp[frz,frzv,Ld.sh,Sk.data]
  | .nil,k+1,_,_=>by simp[frz,frzv,Ld.sh,Sk.data]
  | .row z b n cs,k+1,h,hk=>by
    simp only[Ld.sh,Sk.dep] at hk
    simp only[Ld.vars,List.forall_mem_cons] at h
    obtain⟨h1,h2⟩:=frz_lds cs k h.2 (by omega)
    cases z<;>simp[frz,frzv,Ld.sh,Sk.data,h.1,h1,h2]
theorem frz_lds {B:Nat→Option (List SV)}:∀ (cs:List Ld) (k:Nat),(∀ p∈varsL cs,B p.1=some p.2)→depL (shs cs)<k→mapO (frz B k) (svs cs)=some (dataL (shs cs))∧mapO (frzv B k) (svs cs)=some (dataL (shs cs))
  | [],k,_,_=>⟨rfl,rfl⟩
  | x::r,k,h,hk=>by
    simp only[shs,depL] at hk
    simp only[varsL,List.mem_append] at h
    obtain⟨h1,h2⟩:=frz_ld x k (fun p hp=>h p (.inl hp)) (by omega)
    obtain⟨h3,h4⟩:=frz_lds r k (fun p hp=>h p (.inr hp)) (by omega)
    simp[mapO,shs,dataL,h1,h2,h3,h4]
end
@[simp] theorem mapO_frzd (B:Nat→Option (List SV)) (k:Nat) (cs:List D):mapO (frz B (k+1)) (cs.map SV.d)=some cs:=by
  induction cs with
  | nil=>rfl
  | cons x r ih=>simp only[List.map_cons,mapO,ih];rfl
abbrev newL (cs:List Sk):Nat→Option (List SV):=lookN (varsL (canL 0 cs))
theorem _root_.Go.Sh.CallT.f {P:Program}{S:St}{lo:Lo}{g:FuncId}{ss:List SV}{K:Bool→SV→St→Prop}{ds:List D}{r:SV}{k n:Nat}{B:Nat→Option (List SV)}{gl:Nat→Option D} (h:FCall P gl g ds r k B) (hg:S.gl=gl) (hl:lo.loud=true) (hd:mapO (frz S.B n) ss=some ds)
    (kk:K true (r.shift S.nx) (addS S k B)):CallT lo P g ss S K:=.l (.ofF (by rw[hg];exact h) hd) hl kk
theorem _root_.Go.Sh.FCall.own {P:Program}{S:St}{g:FuncId}{ss:List SV}{ds:List D}{r:SV}{k n base top:Nat}{B:Nat→Option (List SV)}{gl:Nat→Option D} (h:FCall P gl g ds r k B) (hg:S.gl=gl) (hx:top≤S.nx)
    (hd:∀ B':Nat→Option (List SV),(∀ b,b<base→B' b=S.B b)→mapO (frz B' n) ss=some ds):OwnK P g ss S base top (r.shift S.nx) (fun B0 x=>if x<S.nx then B0 x else if x<S.nx+k then (B (x - S.nx)).map (·.map (SV.shift S.nx)) else none) (S.nx+k):=by
  refine⟨fun S1 k1 k2 k3 k4 k5 k6=>?_,fun B0 q cs hq=>?_,fun B0 b hb=>if_pos (by omega),fun B0 C b hb=>?_⟩
  · have:=LCall.ofF (S:=S1) (by rw[k3,hg];exact h) (hd S1.B k6)
    rw[← k2]
    exact this
  · funext x
    simp only[upd]
    by_cases e:x=q
    · rw[if_pos e,if_pos (by omega)];simp[e]
    · rw[if_neg e];simp[e]
  · simp only[hb]
theorem _root_.Go.Sh.CallT.o {P:Program}{A:Ar}{base i:Nat}{Eh:Eh}{S:St}{g:FuncId}{ss:List SV}{K:Bool→SV→St→Prop}{ds:List D}{r:SV}{k n:Nat}{B:Nat→Option (List SV)}{gl:Nat→Option D} (l:Go.Sh.Old) (h:FCall P gl g ds r k B) (hg:S.gl=gl)
    (hf:freeAt A.a i=true) (hl:oldOf A.a i=l) (ho:OldT l base Eh.e) (hx:base+A.a.size≤S.nx) (hd:∀ B':Nat→Option (List SV),(∀ b,b<base→B' b=S.B b)→mapO (frz B' n) ss=some ds) (kk:K true (r.shift S.nx) (addS S k B)):CallT (@LoudT true A base i Eh) P g ss S K :=
  .own l hf hl ho (h.own hg hx hd) kk
theorem At.old {S:St}{lo hi K:Nat}{B:Nat→Option (List SV)}{cs:List Ld} (h:At S lo hi cs) (hh:hi≤S.nx):At (addS S K B) lo hi cs :=
  h.keep fun b _ h2=>by rw[addS_B,if_pos (by omega)]
theorem At.added (S:St) (cs:List Sk):At (addS S (cntL cs) (newL cs)) S.nx (S.nx+cntL cs) (canL S.nx cs):=by
  refine⟨fun p hp=>?_,canL_nodup _ _,fun p hp=>canL_rng hp⟩
  have hr:=canL_rng hp
  have e:=canL_vars S.nx 0 cs
  rw[Nat.add_zero] at e
  rw[← e] at hp
  obtain⟨q,hq,rfl⟩:=List.mem_map.1 hp
  rw[addS_B,if_neg (by simp),if_pos (by simp only[shV] at hr ⊢;omega)]
  simp only[shV,Nat.add_sub_cancel_left,newL]
  rw[lookN_of (canL_nodup 0 cs) hq]
  rfl
theorem At.new {S':St}{q:Nat}{cs:List Sk} (h:∀ b,q≤b→b<q+cntL cs→S'.B b=(newL cs (b - q)).map (·.map (SV.shift q))):At S' q (q+cntL cs) (canL q cs):=by
  let S0:St:={ B:=fun _=>none,T:=fun _=>none,n:=0,md:=[],gl:=fun _=>none,nx:=q }
  exact (At.added S0 cs).keep fun b h1 h2=>by
    have h3:q≤b:=h1
    rw[h b h1 h2,addS_B,if_neg (show ¬ b<q by omega),if_pos (by exact h2)]
def AccD (sz:Nat) (S:St) (X:SV) (cs:List D) (n:Nat):Prop:=(n=0∧cs=[]∧X=.fl [] 0)∨(0<n∧∃ i,i<S.nx∧X=.tp i 0 cs n∧S.T i=some (n,sz))
theorem AccD.nil {sz:Nat}{S:St}:AccD sz S (.fl [] 0) [] 0:=.inl ⟨rfl,rfl,rfl⟩
theorem AccD.mono {sz:Nat}{S S':St}{X:SV}{cs:List D}{n:Nat} (h:AccD sz S X cs n) (hn:S.nx≤S'.nx) (hT:∀ i,i<S.nx→S'.T i=S.T i):AccD sz S' X cs n :=
  h.imp id fun ⟨a,i,h1,h2,h3⟩=>⟨a,i,by omega,h2,(hT i h1).trans h3⟩
theorem AccD.other {sz sz' m q:Nat}{S S':St}{X:SV}{cs:List D}{n:Nat} (h:AccD sz S X cs n) (hq:S.T q=some (m,sz')) (hne:sz'≠sz) (hn:S.nx≤S'.nx) (hT:∀ i,i<S.nx→i≠q→S'.T i=S.T i):AccD sz S' X cs n :=
  h.imp id fun ⟨a,i,h1,h2,h3⟩=>⟨a,i,by omega,h2,(hT i h1 (fun e=>by rw[e,hq] at h3;simp at h3;exact hne h3.2)).trans h3⟩
theorem AccD.frz {sz:Nat}{S:St}{X:SV}{cs:List D}{n k:Nat}{B:Nat→Option (List SV)} (h:AccD sz S X cs n):Go.Sh.frz B (k+1) X=some (.ps cs n):=by
  rcases h with ⟨rfl,rfl,rfl⟩ | ⟨_,i,_,rfl,_⟩<;>rfl
theorem AccD.one {sz:Nat}{S:St}{X:SV}{cs:List D}{n:Nat} (h:AccD sz S X cs n):X.one=true∧X.cells=[X]∧X.cell=true:=by
  rcases h with ⟨rfl,rfl,rfl⟩ | ⟨_,i,_,rfl,_⟩<;>exact⟨rfl,rfl,rfl⟩
def skR (e:Bool) (n:Nat) (cs:List Sk):Sk:=if n=0∧e=false then .nil else .row none n cs
def skS (e:Bool) (l:List ByteArray):Sk:=skR e l.length (l.map fun s=>.d (.string s))
mutual
def Val.sk (e:Bool):Val→List Sk
  | .mk k n t l ns=>[.d (.int .i64 k), .d (.int .i64 n), .d (.string t),skR e l.length (valsSk e l),skS e ns]
def valsSk (e:Bool):List Val→List Sk
  | []=>[]
  | v::r=>v.sk e++valsSk e r
end
theorem At.mono {S S':St}{lo hi:Nat}{a:List Ld} (ha:At S lo hi a) (h:S'.B=S.B):At S' lo hi a:=ha.keep fun b _ _=>by rw[h]
theorem At.skip {S S':St}{lo hi q:Nat}{cs:List SV}{a:List Ld} (ha:At S lo hi a) (hq:q<lo∨hi≤q) (h:S'.B=upd S.B q cs):At S' lo hi a:=ha.keep fun b h1 h2=>by rw[h,upd_ne _ _ (by omega)]
end Go.Proofs.YtbmoiajdknejnaaGreat
namespace Go.Sh
end Go.Sh
namespace Go.Proofs.YtbmoiajdknejnaaGreat
open Go.Sh
variable {gl:Nat→Option D}
def skZ (z n:Nat) (cs:List Sk):Sk:=if n=0 then .nil else .row (some z) n cs
theorem skZ_pos {z n:Nat}{cs:List Sk} (h:n≠0):skZ z n cs=.row (some z) n cs:=if_neg h
@[simp] theorem skZ_zero (z:Nat) (cs:List Sk):skZ z 0 cs=.nil:=if_pos rfl
theorem skZ_data {z n:Nat}{cs:List Sk} (h:n=0→cs=[]):(skZ z n cs).data=.ps (dataL cs) n:=by
  unfold skZ
  split
  · rename_i h1;subst h1;rw[h rfl];rfl
  · rfl
abbrev txK (ns:List ByteArray):List Sk:=ns.map fun s=>.d (.string s)
def skT (ns:List ByteArray):Sk:=skZ 1 ns.length (txK ns)
theorem txK_data:∀ ns:List ByteArray,dataL (txK ns)=ns.map dS
  | []=>rfl
  | s::r=>by
    have:=txK_data r
    simp only[List.map_cons,dataL,Sk.data]
    rw[this]
theorem skT_data (ns:List ByteArray):(skT ns).data=namesD ns:=by
  unfold skT
  rw[skZ_data (fun h=>by rw[List.eq_nil_of_length_eq_zero h];rfl),txK_data]
mutual
def Val.sz:Val→List Sk
  | .mk k n t l ns=>[.d (.int .i64 k), .d (.int .i64 n), .d (.string t),skZ 5 l.length (valsZ l),skT ns]
def valsZ:List Val→List Sk
  | []=>[]
  | v::r=>v.sz++valsZ r
end
@[simp] theorem sz_len (v:Val):v.sz.length=5:=by cases v;rfl
mutual
theorem sz_data:∀ v:Val,dataL v.sz=v.cells
  | .mk k n t l ns=>by
    have:(skZ 5 l.length (valsZ l)).data=valsD l:=by
      rw[skZ_data (fun h=>by rw[List.eq_nil_of_length_eq_zero h];rfl),valsZ_data l]
    simp[Val.sz,dataL,Sk.data,Val.cells,skT_data,this]
theorem valsZ_data:∀ l:List Val,dataL (valsZ l)=valsCells l
  | []=>rfl
  | v::r=>by simp[valsZ,dataL_app,valsCells,sz_data v,valsZ_data r]
end
theorem ld_z {z n:Nat}{sk:List Sk}{X:Ld} (h:X.sh=skZ z n sk):(X=.nil∧n=0)∨∃ b cs,X=.row (some z) b n cs∧shs cs=sk∧n≠0:=by
  unfold skZ at h
  split at h
  · rename_i hn
    cases X with
    | nil=>exact .inl ⟨rfl,hn⟩
    | d v=>simp[Ld.sh] at h
    | row z b m cs=>simp[Ld.sh] at h
  · rename_i hn
    cases X with
    | nil=>simp[Ld.sh] at h
    | d v=>simp[Ld.sh] at h
    | row z b m cs =>
      simp only[Ld.sh,Sk.row.injEq] at h
      obtain⟨rfl,rfl,h3⟩:=h
      exact .inr ⟨b,cs,rfl,h3,hn⟩
theorem z_one {z n:Nat}{sk:List Sk}{X:Ld} (h:X.sh=skZ z n sk):X.sv.one=true∧X.sv.cells=[X.sv]∧X.sv.cell=true:=by
  rcases ld_z h with ⟨rfl,_⟩ | ⟨b,cs,rfl,_⟩<;>exact⟨rfl,rfl,rfl⟩
theorem row_sh {z b n:Nat}{cs:List Ld}{sk:List Sk} (h:shs cs=sk) (hn:n≠0):(Ld.row (some z) b n cs).sh=skZ z n sk:=by
  rw[skZ_pos hn, ← h];rfl
theorem At.grow {S S':St}{lo hi lo2 hi' b q n m:Nat}{z z':Option Nat}{cs X:List Ld} (ha:At S lo hi [.row z b n cs]) (hX:At S' lo2 hi' X) (hq:S'.B q=some (svs (cs++X))) (ho:∀ x,lo≤x→x<hi→x≠b→S'.B x=S.B x)
    (h1:hi≤lo2) (h2:hi≤hi') (h3:lo≤q) (h4:q<hi') (h5:∀ p∈varsL X,p.1≠q) (h6:hi≤q):At S' lo hi' [.row z' q m (cs++X)]:=by
  have hr:=ha.rng
  have hn:=ha.nodup
  have hh:=ha.has
  simp only[varsL,Ld.vars,List.append_nil,List.map_cons,List.nodup_cons,List.forall_mem_cons] at hr hn hh
  have hc:At S' lo hi cs:=⟨fun p hp=>by
    rw[ho p.1 (hr.2 p hp).1 (hr.2 p hp).2 (fun e=>hn.1 (List.mem_map.2 ⟨p,hp,e⟩))];exact hh.2 p hp,hn.2,hr.2⟩
  have hlo:lo≤lo2:=by have:=hr.1;omega
  refine .row hq h3 h4 ⟨fun p hp=>?_,?_,fun p hp=>?_⟩ (fun p hp=>?_)
  · rw[varsL_app] at hp
    rcases List.mem_append.1 hp with hp | hp
    · exact hc.has p hp
    · exact hX.has p hp
  · rw[varsL_app,List.map_append]
    refine List.nodup_append.2 ⟨hc.nodup,hX.nodup,fun x hx y hy e=>?_⟩
    obtain⟨p,hp,rfl⟩:=List.mem_map.1 hx
    obtain⟨p',hp',rfl⟩:=List.mem_map.1 hy
    have:=hc.rng p hp
    have:=hX.rng p' hp'
    omega
  · rw[varsL_app] at hp
    rcases List.mem_append.1 hp with hp | hp
    · have:=hc.rng p hp;omega
    · have:=hX.rng p hp;omega
  · rw[varsL_app] at hp
    rcases List.mem_append.1 hp with hp | hp
    · have:=hc.rng p hp;omega
    · exact h5 p hp
inductive Typ where
  | mk (name:ByteArray) (of:List Typ) (must:Bool)
  deriving Inhabited
mutual
def Typ.cells:Typ→List D
  | .mk t l b=>[dS t, .ps (typsCells l) l.length,dB b]
def typsCells:List Typ→List D
  | []=>[]
  | v::r=>v.cells++typsCells r
end
abbrev Typ.d (v:Typ):D:=.agg v.cells
abbrev typsD (l:List Typ):D:=.ps (typsCells l) l.length
theorem tcells_len (v:Typ):v.cells.length=3:=by cases v;rfl
@[simp] theorem take_tcells (v:Typ):v.cells.take 3=v.cells:=List.take_of_length_le (by rw[tcells_len];exact Nat.le_refl _)
@[simp] theorem take_tcellsS (v:Typ):(v.cells.map SV.d).take 3=v.cells.map SV.d:=List.take_of_length_le (by rw[List.length_map,tcells_len];exact Nat.le_refl _)
inductive TLe (n:Nat):Typ→Prop
  | mk {t:ByteArray} {l:List Typ} {b:Bool} (ht:t.size≤n) (hl:l.length≤n) (h:∀ v∈l,TLe n v):TLe n (.mk t l b)
theorem TLe.mono {n m:Nat} (hnm:n≤m):∀ {v:Typ},TLe n v→TLe m v
  | .mk t l b, .mk ht hl h=>.mk (by omega) (by omega) fun v hv =>
    have:=List.sizeOf_lt_of_mem hv
    TLe.mono hnm (h v hv)
termination_by v=>SizeOf.sizeOf v
decreasing_by
  simp_wf
  omega
mutual
def Typ.sk (e:Bool):Typ→List Sk
  | .mk t l b=>[.d (.string t),skR e l.length (typsSk e l), .d (.bool b)]
def typsSk (e:Bool):List Typ→List Sk
  | []=>[]
  | v::r=>v.sk e++typsSk e r
end
structure Arg where
  name:ByteArray
  ty:Typ
  has:Bool
  els:Val
def Arg.cells (a:Arg):List D:=dS a.name::(a.ty.cells++dB a.has::a.els.cells)
abbrev Arg.d (a:Arg):D:=.agg a.cells
def argsCells (l:List Arg):List D:=l.flatMap Arg.cells
abbrev argsD (l:List Arg):D:=.ps (argsCells l) l.length
theorem acells_len (a:Arg):a.cells.length=10:=by simp[Arg.cells,cells_len,tcells_len]
theorem args_len (l:List Arg):(argsCells l).length=l.length*10:=row_len acells_len l
theorem args_at (l:List Arg) {i:Nat} (hi:i<l.length):((argsCells l).drop (i*10)).take 10=(l[i]).cells:=row_at acells_len l i hi
structure ALe (n:Nat) (a:Arg):Prop where
  name:a.name.size≤n
  ty:TLe n a.ty
def ArgOk (a:Arg):Prop:=a.name.size≤4611686018427387904∧TLe 4611686018427387904 a.ty∧WF a.els
def ArgSm (a:Arg):Prop:=a.name.size≤1048576∧TLe 1048576 a.ty∧Small a.els
theorem TLe.big {v:Typ} (h:TLe 1048576 v):TLe 4611686018427387904 v:=h.mono (by omega)
theorem arg_ok {a:Arg} (h:ArgSm a):ArgOk a:=⟨by have:=h.1;omega,h.2.1.big,small_wf h.2.2⟩
def Arg.sk (e:Bool) (a:Arg):List Sk:=.d (.string a.name)::(a.ty.sk e++.d (.bool a.has)::a.els.sk e)
def argsSk (e:Bool) (l:List Arg):List Sk:=l.flatMap (Arg.sk e)
structure Fld where
  name:ByteArray
  args:List Arg
  ty:Typ
def Fld.cells (a:Fld):List D:=dS a.name::argsD a.args::a.ty.cells
abbrev Fld.d (a:Fld):D:=.agg a.cells
def fldsCells (l:List Fld):List D:=l.flatMap Fld.cells
abbrev fldsD (l:List Fld):D:=.ps (fldsCells l) l.length
theorem fcells_len (a:Fld):a.cells.length=5:=by simp[Fld.cells,tcells_len]
theorem flds_len (l:List Fld):(fldsCells l).length=l.length*5:=row_len fcells_len l
theorem flds_at (l:List Fld) {i:Nat} (hi:i<l.length):((fldsCells l).drop (i*5)).take 5=(l[i]).cells:=row_at fcells_len l i hi
def FldOk (a:Fld):Prop:=a.name.size≤4611686018427387904∧(a.args.length≤4611686018427387904∧∀ x∈a.args,ArgOk x)∧TLe 4611686018427387904 a.ty
def FldSm (a:Fld):Prop:=a.name.size≤1048576∧(a.args.length≤1048576∧∀ x∈a.args,ArgSm x)∧TLe 1048576 a.ty
def Fld.sk (e:Bool) (a:Fld):List Sk:=.d (.string a.name)::skR e a.args.length (argsSk e a.args)::a.ty.sk e
def fldsSk (e:Bool) (l:List Fld):List Sk:=l.flatMap (Fld.sk e)
structure Def where
  name:ByteArray
  kind:Int
  flds:List Fld
  words:List ByteArray
def Def.cells (a:Def):List D:=[dS a.name,dI a.kind,fldsD a.flds,namesD a.words]
abbrev Def.d (a:Def):D:=.agg a.cells
def defsCells (l:List Def):List D:=l.flatMap Def.cells
abbrev defsD (l:List Def):D:=.ps (defsCells l) l.length
theorem dcells_len (a:Def):a.cells.length=4:=rfl
@[simp] theorem take_dcellsS (v:Def):(v.cells.map SV.d).take 4=v.cells.map SV.d:=List.take_of_length_le (by rw[List.length_map,dcells_len];exact Nat.le_refl _)
theorem defs_len (l:List Def):(defsCells l).length=l.length*4:=row_len dcells_len l
theorem defs_at (l:List Def) {i:Nat} (hi:i<l.length):((defsCells l).drop (i*4)).take 4=(l[i]).cells:=row_at dcells_len l i hi
def DefOk (a:Def):Prop:=a.name.size≤4611686018427387904∧(a.flds.length≤4611686018427387904∧∀ x∈a.flds,FldOk x)∧NamesOk a.words
def DefSm (a:Def):Prop:=a.name.size≤1048576∧(a.flds.length≤1048576∧∀ x∈a.flds,FldSm x)∧(a.words.length≤1048576∧∀ s∈a.words,s.size≤1048576)
def Def.sk (e:Bool) (a:Def):List Sk:=[.d (.string a.name), .d (.int .i64 a.kind),skR e a.flds.length (fldsSk e a.flds),skS e a.words]
mutual
def Typ.sz:Typ→List Sk
  | .mk t l b=>[.d (.string t),skZ 3 l.length (typsZ l), .d (.bool b)]
def typsZ:List Typ→List Sk
  | []=>[]
  | v::r=>v.sz++typsZ r
end
@[simp] theorem typ_szlen (v:Typ):v.sz.length=3:=by cases v;rfl
mutual
theorem typ_szdata:∀ v:Typ,dataL v.sz=v.cells
  | .mk t l b=>by
    have:(skZ 3 l.length (typsZ l)).data=typsD l:=by
      rw[skZ_data (fun h=>by rw[List.eq_nil_of_length_eq_zero h];simp[typsZ]),typsZ_data l]
    simp[Typ.sz,dataL,Sk.data,Typ.cells,this]
theorem typsZ_data:∀ l:List Typ,dataL (typsZ l)=typsCells l
  | []=>by simp[typsZ,dataL,typsCells]
  | v::r=>by simp[typsZ,dataL_app,typsCells,typ_szdata v,typsZ_data r]
end
def rowsZ {α:Type} (f:α→List Sk) (l:List α):List Sk:=l.flatMap f
theorem rowsZ_len {α:Type}{f:α→List Sk}{k:Nat} (h:∀ x,(f x).length=k) (l:List α):(rowsZ f l).length=l.length*k:=row_len h l
theorem rowsZ_data {α:Type}{f:α→List Sk}{g:α→List D} (h:∀ x,dataL (f x)=g x):∀ l:List α,dataL (rowsZ f l)=l.flatMap g
  | []=>rfl
  | x::r=>by
    have:=rowsZ_data h r
    simp only[rowsZ,List.flatMap_cons,dataL_app] at this ⊢
    rw[h,this]
def Arg.sz (a:Arg):List Sk:=.d (.string a.name)::(a.ty.sz++.d (.bool a.has)::a.els.sz)
@[simp] theorem arg_szlen (a:Arg):a.sz.length=10:=by simp[Arg.sz]
theorem arg_szdata (a:Arg):dataL a.sz=a.cells:=by simp[Arg.sz,dataL,dataL_app,Sk.data,Arg.cells,sz_data,typ_szdata]
def Fld.sz (a:Fld):List Sk:=.d (.string a.name)::skZ 10 a.args.length (rowsZ Arg.sz a.args)::a.ty.sz
@[simp] theorem fld_szlen (a:Fld):a.sz.length=5:=by simp[Fld.sz]
theorem fld_szdata (a:Fld):dataL a.sz=a.cells:=by
  have:(skZ 10 a.args.length (rowsZ Arg.sz a.args)).data=argsD a.args:=by
    rw[skZ_data (fun h=>by rw[List.eq_nil_of_length_eq_zero h];rfl),rowsZ_data arg_szdata];rfl
  simp[Fld.sz,dataL,Sk.data,Fld.cells,this,typ_szdata]
def Def.sz (a:Def):List Sk:=[.d (.string a.name), .d (.int .i64 a.kind),skZ 5 a.flds.length (rowsZ Fld.sz a.flds),skT a.words]
@[simp] theorem def_szlen (a:Def):a.sz.length=4:=by simp[Def.sz]
theorem def_szdata (a:Def):dataL a.sz=a.cells:=by
  have:(skZ 5 a.flds.length (rowsZ Fld.sz a.flds)).data=fldsD a.flds:=by
    rw[skZ_data (fun h=>by rw[List.eq_nil_of_length_eq_zero h];rfl),rowsZ_data fld_szdata];rfl
  simp[Def.sz,dataL,Sk.data,Def.cells,this,skT_data]
def skDefs (l:List Def):Sk:=skZ 4 l.length (rowsZ Def.sz l)
theorem skDefs_data (l:List Def):(skDefs l).data=defsD l:=by
  unfold skDefs
  rw[skZ_data (fun h=>by rw[List.eq_nil_of_length_eq_zero h];rfl),rowsZ_data def_szdata];rfl
end Go.Proofs.YtbmoiajdknejnaaGreat
namespace Go.Proofs.YtbmoiajdknejnaaGreat
open Go.Sh
def AccZ (S:St) (lo hi z n:Nat) (sk:List Sk) (X:SV):Prop:=∃ x:Ld,X=x.sv∧x.sh=skZ z n sk∧At S lo hi [x]
theorem AccZ.nil {S:St}{lo hi z:Nat}:AccZ S lo hi z 0 [] (.fl [] 0):=⟨.nil,rfl,by simp[Ld.sh], .cons_nil .nil⟩
theorem AccZ.keep {S S':St}{lo hi z n lo' hi':Nat}{sk:List Sk}{X:SV} (h:AccZ S lo hi z n sk X) (hB:∀ b,lo≤b→b<hi→S'.B b=S.B b) (h1:lo'≤lo) (h2:hi≤hi'):AccZ S' lo' hi' z n sk X:=by
  obtain⟨x,e1,e2,e3⟩:=h
  exact⟨x,e1,e2,(e3.keep hB).le h1 h2⟩
theorem AccZ.one {S:St}{lo hi z n:Nat}{sk:List Sk}{X:SV} (h:AccZ S lo hi z n sk X):X.one=true∧X.cells=[X]∧X.cell=true:=by
  obtain⟨x,rfl,e2,_⟩:=h
  exact z_one e2
structure SameT (S S':St):Prop where
  T:S'.T=S.T
  nx:S'.nx=S.nx
  n:S'.n=S.n
  gl:S'.gl=S.gl
  md:S'.md=S.md
theorem OpT_addZ {P:Program}{S1 S:St}{lo hi z n:Nat}{sk:List Sk}{X:SV}{N:List Ld}{xs:List SV}{lo2 hi2 hi' id:Nat}{dst:Option Nat}{T e by_:Nat}{K:Bool→SV→Eff→Prop}
    (h:AccZ S1 lo hi z n sk X) (hl:sk.length=n*z) (hS:∀ b,lo≤b→b<hi→S.B b=S1.B b) (hx:xs=svs N) (hN:At S lo2 hi2 N) (hNl:N.length=z) (hT:appOf P T=some (e,z,by_)) (hb:appBound n 1 by_)
    (h1:hi≤lo2) (h2:hi≤id) (h3:lo≤id) (h4:id<hi') (h5:hi2≤hi') (h6:lo≤lo2) (h7:∀ p∈varsL N,p.1≠id)
    (hK:∀ X' S' E',S.app id E'=S'→AccZ S' lo hi' z (n+1) (sk++shs N) X'→(∀ b,(b<lo∨hi≤b)→b≠id→S'.B b=S.B b)→SameT S S'→K true X' E'):OpT (evalAppend P S id dst T X (.ls xs 1)) K:=by
  obtain⟨x,rfl,e2,e3⟩:=h
  subst hx
  rcases ld_z e2 with ⟨rfl,h0⟩ | ⟨b',cs,rfl,hsc,hpos⟩
  · subst h0
    have hs:sk=[]:=List.eq_nil_of_length_eq_zero (by omega)
    subst hs
    have he:evalAppend P S id dst T (Ld.nil).sv (.ls (svs N) 1)=some (.sk id 1 z, .new (svs N)):=by
      rw[Ld.sv_nil,evalAppend_fl]
      simp[hT,hNl,onlyIf,hb]
    rw[he]
    have hB:∀ b,b≠id→(S.app id (.new (svs N))).B b=S.B b:=fun b hb=>upd_ne _ _ hb
    refine hK _ _ _ rfl ⟨.row (some z) id 1 N,rfl,?_,?_⟩ (fun b _ hb=>hB b hb) ⟨rfl,rfl,rfl,rfl,rfl⟩
    · rw[List.nil_append];exact row_sh rfl (by omega)
    · exact .row (upd_same _ _ _) h3 h4 ⟨fun p hp=>(hB p.1 (h7 p hp)).trans (hN.has p hp),hN.nodup,fun p hp=>by have:=hN.rng p hp;omega⟩ h7
  · have e4:At S lo hi [.row (some z) b' n cs]:=e3.keep hS
    have hbb:=e4.has (b',svs cs) (by simp[varsL,Ld.vars])
    have hrg:=e4.rng (b',svs cs) (by simp[varsL,Ld.vars])
    simp only at hbb hrg
    have hA:(svs cs).length=n*z:=by rw[svs_len, ← shs_len,hsc,hl]
    have htk:List.take (n*z) (svs cs)=svs cs:=List.take_of_length_le (by omega)
    have he:evalAppend P S id dst T (Ld.row (some z) b' n cs).sv (.ls (svs N) 1)=some (.sk id (n+1) z, .mov b' (svs cs++svs N)):=by
      rw[Ld.sv_row,rowV_some,evalAppend_sk,hbb,hT]
      have hA2:cs.length=n*z:=by rw[← svs_len,hA]
      have htk2:List.take (n*z) (svs cs)=svs cs:=htk
      simp[hNl,onlyIf,hb,hA2,htk2]
    rw[he]
    have hq:(S.app id (.mov b' (svs cs++svs N))).B id=some (svs (cs++N)):=by
      rw[svs_app];simp
    have hB:∀ b,b≠id→b≠b'→(S.app id (.mov b' (svs cs++svs N))).B b=S.B b:=fun b hb hb2=>by
      show upd (fun x=>if x=b' then none else S.B x) id _ b=_
      rw[upd_ne _ _ hb,if_neg hb2]
    have hN':At (S.app id (.mov b' (svs cs++svs N))) lo2 hi2 N:=⟨fun p hp=>(hB p.1 (h7 p hp) (fun e=>by have:=hN.rng p hp;omega)).trans (hN.has p hp),hN.nodup,hN.rng⟩
    refine hK _ _ _ rfl ⟨.row (some z) id (n+1) (cs++N),rfl,?_,?_⟩ (fun b hb1 hb2=>hB b hb2 (by omega)) ⟨rfl,rfl,rfl,rfl,rfl⟩
    · exact row_sh (by rw[shs_app,hsc]) (by omega)
    · exact e4.grow (lo2:=lo2) (hi':=hi') (hN'.le (Nat.le_refl _) h5) hq (fun x q1 q2 q3=>hB x (by omega) q3) h1 (by omega) h3 h4 h7 h2
theorem CallT.x {P:Program}{lo:Lo}{g:FuncId}{ss:List SV}{S:St}{K:Bool→SV→St→Prop}{Q:SV→St→Prop} (h:∃ r S',LCall P g ss S r S'∧Q r S') (hl:lo.loud=true) (k:∀ r S',Q r S'→K true r S'):CallT lo P g ss S K:=by
  obtain⟨r,S',h1,h2⟩:=h
  exact CallT.l h1 hl (k r S' h2)
structure Got (S S':St) (R:Nat) (rc:List SV) (X:List Ld):Prop where
  n:S'.n=S.n
  gl:S'.gl=S.gl
  md:S'.md=S.md
  nx:S.nx≤S'.nx
  rd:S'.B R=some rc
  old:∀ x,x<S.nx→x≠R→S'.B x=S.B x
  T:∀ x,x<S.nx→S'.T x=S.T x
  new:At S' S.nx S'.nx X
end Go.Proofs.YtbmoiajdknejnaaGreat
namespace Go.Proofs.YtbmoiajdknejnaaGreat
open Go.Sh
variable {gl:Nat→Option D}
abbrev rdP (c:List UInt8) (p:Nat):List SV:=[.d (codeD c), .d (dI (p:Int))]
theorem got_left {S:St}{b:Nat}{cs:List SV} (hb:b<S.nx):Got S (leftS S 0 [(b,cs)] []) b cs [] :=
  ⟨rfl,rfl,rfl,by simp,by simp,fun x h1 h2=>by simp[h2];omega,fun x h1=>by simp;omega, .nil⟩
theorem x_pick (S0:St) (b:Nat) (c:List UInt8) (p n:Nat) (hb:b<S0.nx) (h:S0.B b=some (rdP c p)) (hc:c.length≤2000) (hp:p≤1000000) (hn:1≤n) (hn2:n≤1000000) :
    ∃ r S',LCall Tryz.prog 83 [.op b 0, .d (dI n)] S0 r S'∧(r=.d (dI (pickK c p n))∧Got S0 S' b (rdP c (p+1)) []) :=
  ⟨_,_,l_pick S0 b c p n ⟨hb,h,hc,by omega⟩ (by omega) hn (by omega),rfl,got_left hb⟩
theorem x_of (S0:St) (b:Nat) (c:List UInt8) (p:Nat) (X:SV) (l:List ByteArray) (hX:TextRow X l) (hl:l≠[]) (hl2:l.length≤1000000) (hb:b<S0.nx) (h:S0.B b=some (rdP c p)) (hc:c.length≤2000) (hp:p≤1000000) :
    ∃ r S',LCall Tryz.prog 84 [.op b 0,X] S0 r S'∧(r=.d (dS (ofK c p l))∧Got S0 S' b (rdP c (p+1)) []) :=
  ⟨_,_,l_of S0 b c p X l hX hl (by omega) ⟨hb,h,hc,by omega⟩ (by omega),rfl,got_left hb⟩
def IntRow (X:SV) (l:List Int):Prop:=X=.fl (l.map fun i=>dI i) l.length∨X=.d (.ps (l.map fun i=>dI i) l.length)
def oneK (c:List UInt8) (p:Nat) (l:List Int):Int:=l.getD (pickK c p l.length) 0
theorem oneK_mem (c:List UInt8) (p:Nat) {l:List Int} (hl:l≠[]):oneK c p l∈l:=by
  have hll:0<l.length:=List.length_pos_iff.2 hl
  have:=pickK_lt c p l.length hll
  unfold oneK
  rw[List.getD_eq_getElem?_getD,List.getElem?_eq_getElem this]
  exact List.getElem_mem this
set_option maxHeartbeats 8000000 in
theorem x_one (S0:St) (b:Nat) (c:List UInt8) (p:Nat) (X:SV) (l:List Int) (hX:IntRow X l) (hl:l≠[]) (hl2:l.length≤1000000) (hb:b<S0.nx) (h:S0.B b=some (rdP c p)) (hc:c.length≤2000) (hp:p≤1000000) :
    ∃ r S',LCall Tryz.prog 150 [.op b 0,X] S0 r S'∧(r=.d (dI (oneK c p l))∧Got S0 S' b (rdP c (p+1)) []):=by
  have hll:0<l.length:=List.length_pos_iff.2 hl
  have hk:=pickK_lt c p l.length hll
  have hat:l[pickK c p l.length]?=some (oneK c p l):=by
    unfold oneK
    rw[List.getD_eq_getElem?_getD,List.getElem?_eq_getElem hk];rfl
  have hat2:∀ h,l[pickK c p l.length]'h=oneK c p l:=fun h=>by rw[List.getElem?_eq_getElem h] at hat;exact Option.some.inj hat
  rcases hX with rfl | rfl
  all_goals
    refine LCall.ex_ (md:=[]) Tryz.func150 rfl (by kernel_rfl) (by kernel_rfl) (n:=12) Tryz.ntmps150 (by simp) (by decide) rfl ?_
    simp[h]
    refine CallT.x (x_pick _ b c p l.length (by simp;omega) (by simp[h]) hc hp (by omega) hl2) rfl (fun r1 S1 h1=>?_)
    obtain⟨q1,hG1⟩:=h1
    subst q1
    have S1_n:=hG1.n
    try simp[h] at S1_n
    have S1_gl:=hG1.gl
    try simp[h,S1_n] at S1_gl
    have S1_md:=hG1.md
    try simp[h,S1_n,S1_gl] at S1_md
    have S1_nx:=hG1.nx
    try simp[h,S1_n,S1_gl,S1_md] at S1_nx
    have S1_rd:=hG1.rd
    simp[h,S1_n,S1_gl,S1_md,S1_rd,hk,hat2]
    exact⟨rfl,rfl,rfl,by simp;omega,by simpa using S1_rd,fun x h1 h2=>hG1.old x (by simp;omega) h2,fun x h1=>hG1.T x (by simp;omega), .nil⟩
abbrev bs (l:List UInt8):ByteArray:=⟨⟨l⟩⟩
theorem bs_from (l:List UInt8) (i j:Nat):(bs l).extract i j=bs ((l.take j).drop i):=by
  apply ByteArray.ext
  rw[ByteArray.data_extract]
  apply Array.ext'
  rw[Array.toList_extract]
  simp[List.extract,List.drop_take]
theorem bs_inj {a b:List UInt8}:bs a=bs b↔a=b:=⟨fun h=>by injection h with h;injection h,fun h=>by rw[h]⟩
abbrev blankU (c:UInt8):Bool:=c.toNat == 32 || c.toNat == 44
abbrev letU (c:UInt8):Bool:=letterB c.toNat
abbrev figU (c:UInt8):Bool:=figureB c.toNat
def signsL:List UInt8:=[123,125,40,41,91,93,58,61,33,36,64,124]
abbrev signU (c:UInt8):Bool:=signsL.contains c
def plainU (c:UInt8):Bool:=blankU c || letU c || signU c
def gapL (l:List UInt8):List UInt8:=l.dropWhile blankU
theorem gapL_len (l:List UInt8):(gapL l).length≤l.length:=by
  unfold gapL
  induction l with
  | nil=>simp
  | cons c r ih =>
    rw[List.dropWhile_cons]
    split
    · simp only[List.length_cons];omega
    · exact Nat.le_refl _
theorem gapL_mem {l:List UInt8}{c:UInt8} (h:c∈gapL l):c∈l:=(List.dropWhile_suffix _).subset h
theorem gapL_head {l r:List UInt8}{c:UInt8} (h:gapL l=c::r):blankU c=false:=by
  unfold gapL at h
  induction l with
  | nil=>simp at h
  | cons d l ih =>
    rw[List.dropWhile_cons] at h
    split at h
    · exact ih h
    · rename_i hd
      simp only[List.cons.injEq] at h
      rw[← h.1];simpa using hd
theorem bs_len (l:List UInt8):(bs l).size=l.length:=rfl
theorem bs_tail (c:UInt8) (r:List UInt8) (j:Nat) (hj:r.length+1≤j):(bs (c::r)).extract 1 j=bs r:=by
  rw[bs_from,List.take_of_length_le (by simpa using hj)];rfl
theorem plain_hash {c:UInt8} (h:plainU c=true):¬ ((c.toNat:Int)=35)∧¬ ((c.toNat:Int)=9)∧¬ ((c.toNat:Int)=10)∧¬ ((c.toNat:Int)=13):=by
  have:∀ n:Nat,n∈[35,9,10,13]→c.toNat≠n:=fun n hn e=>by
    have hc:c=UInt8.ofNat n:=by rw[← e];simp
    subst hc
    simp at hn
    rcases hn with rfl | rfl | rfl | rfl<;>revert h<;>decide
  refine⟨?_,?_,?_,?_⟩
  · have:=this 35 (by simp);omega
  · have:=this 9 (by simp);omega
  · have:=this 10 (by simp);omega
  · have:=this 13 (by simp);omega
theorem byteI_bs (l:List UInt8) (i:Nat) (h:i<l.length):byteI (bs l) i=(l[i].toNat:Int):=by
  unfold byteI
  simp[h]
theorem blank_of {c:UInt8} (h:c.toNat=32∨c.toNat=44):blankU c=true:=by
  unfold blankU
  rcases h with h | h<;>rw[h]<;>rfl
set_option maxHeartbeats 2000000 in
theorem p_l3Gap (l:List UInt8) (hp:∀ c∈l,plainU c=true) (hl:l.length≤1048576):PCall Tryz.prog gl 288 [dS (bs l)] (dS (bs (gapL l))):=by
  refine PCall.by_ (md:=[]) Tryz.func288 rfl (by kernel_rfl) (n:=48) Tryz.ntmps288 (by simp) (by decide) rfl ?_
  simp
  refine LoopT.round (fun E S=>∃ (r:List UInt8),(gapL r=gapL l)∧(∀ c∈r,plainU c=true)∧(r.length≤l.length)∧E 0=some (.d (dS (bs r)))) (fun E _=>match E 0 with | some (.d (.v (.string s)))=>s.size | _=>0) ⟨l,rfl,hp,Nat.le_refl _,by simp⟩ ?_
  rintro E S hk ⟨r,hr,hm,hrl,h0⟩
  have hn:S.n=48:=by first | (simpa using hk.n)|(have hh:=hk.n;simp at hh;exact hh)
  have hg:S.gl=gl:=by first | (simpa using hk.gl)|(have hh:=hk.gl;simp at hh;exact hh)
  have hmd:S.md=[]:=by first | (simpa using hk.md)|(have hh:=hk.md;simp at hh;exact hh)
  simp[h0,hn,hg,hmd]
  cases r with
  | nil =>
    simp[h0,hn,hg,hmd,bs_len]
    exact hr.symm
  | cons c r =>
    have hb0:byteI (bs (c::r)) 0=(c.toNat:Int):=byteI_bs _ 0 (by simp)
    obtain⟨n1,n2,n3,n4⟩:=plain_hash (hm c (by simp))
    have ht:=bs_tail c r (r.length+1) (Nat.le_refl _)
    have hrl2:r.length+1≤l.length:=by simpa using hrl
    have yes:blankU c=true→gapL r=gapL l:=fun h=>by rw[← hr];simp[gapL,List.dropWhile_cons,h]
    simp[h0,hn,hg,hmd,bs_len,hb0,n1,n2,n3,n4,ht]
    refine BrT.dec (fun c1=>?_) (fun c1=>?_)
    · simp[h0,hn,hg,hmd,bs_len,hb0,n1,n2,n3,n4,ht,c1]
      refine⟨by omega,r,yes (blank_of (.inl (by omega))),fun x hx=>hm x (List.mem_cons_of_mem _ hx),by omega,rfl⟩
    · simp[h0,hn,hg,hmd,bs_len,hb0,n1,n2,n3,n4,ht,c1]
      refine BrT.dec (fun c2=>?_) (fun c2=>?_)
      · simp[h0,hn,hg,hmd,bs_len,hb0,n1,n2,n3,n4,ht,c1,c2]
        exact⟨by omega,r,yes (blank_of (.inr (by omega))),fun x hx=>hm x (List.mem_cons_of_mem _ hx),by omega,rfl⟩
      · simp[h0,hn,hg,hmd,bs_len,hb0,n1,n2,n3,n4,ht,c1,c2]
        have no:blankU c=false:=by
          unfold blankU
          simp only[Bool.or_eq_false_iff,beq_eq_false_iff_ne]
          omega
        rw[← hr];simp[gapL,List.dropWhile_cons,no]
def wordL (l:List UInt8):List UInt8:=l.takeWhile fun c=>letU c || figU c
def oneL:List UInt8→List UInt8
  | []=>[]
  | c::r=>if signU c=true then [c] else wordL (c::r)
abbrev sgn:ByteArray:=⟨#[123,125,40,41,91,93,58,61,33,36,64,124]⟩
theorem p_l3Sign (c:UInt8) (r:List UInt8) (h46:c≠46) (hl:r.length≤1048576):PCall Tryz.prog gl 327 [dS (bs (c::r))] (dS (bs (if signU c=true then [c] else []))):=by
  have hb0:byteI (bs (c::r)) 0=(c.toNat:Int):=byteI_bs _ 0 (by simp)
  have hdot:¬ bs ((c::r).take 3)=⟨#[46,46,46]⟩:=fun e=>h46 (by
    have e2:bs ((c::r).take 3)=bs [46,46,46]:=e
    rw[bs_inj] at e2
    simp only[List.take_succ_cons,List.cons.injEq] at e2
    exact e2.1)
  have hx3:(bs (c::r)).extract 0 3=bs ((c::r).take 3):=by rw[bs_from];rfl
  have hx1:(bs (c::r)).extract 0 1=bs [c]:=by rw[bs_from];rfl
  refine PCall.by_ (md:=[]) Tryz.func327 rfl (by kernel_rfl) (n:=23) Tryz.ntmps327 (by simp) (by decide) rfl ?_
  simp[bs_len,hb0,hx3,hdot,hx1,h46]
  refine BrT.dec (fun c3=>?_) (fun c3=>?_)
  all_goals
    simp[bs_len,hb0,hx3,hdot,hx1,h46,c3]
    refine LoopT.round (fun E S=>∃ (i:Nat),(i≤12)∧(∀ j,j<i→signsL[j]?≠some c)∧E 0=some (.d (dS (bs (c::r))))∧E 3=some (.d (dI i))) (upTo 3 12) ⟨0,by simp[bs_len,hb0,hx3,hdot,hx1,h46]⟩ ?_
    rintro E S hk ⟨i,hi,hno,h0,h3⟩
    have hn:S.n=23:=by first | (simpa using hk.n)|(have hh:=hk.n;simp[bs_len,hb0,hx3,hdot,hx1,h46] at hh;exact hh)
    have hg:S.gl=gl:=by first | (simpa using hk.gl)|(have hh:=hk.gl;simp[bs_len,hb0,hx3,hdot,hx1,h46] at hh;exact hh)
    have hmd:S.md=[]:=by first | (simpa using hk.md)|(have hh:=hk.md;simp[bs_len,hb0,hx3,hdot,hx1,h46] at hh;exact hh)
    simp[bs_len,hb0,hx3,hdot,hx1,h46,h0,h3,hn,hg,hmd]
    have w:=wrap64 (n:=(i:Int)+1) (by omega) (by omega)
    refine BrT.dec (fun ci=>?_) (fun ci=>?_)
    · have hi2:i<12:=by omega
      have hat:byteI sgn i=((signsL.getD i 0).toNat:Int):=rfl
      have hsl:i<signsL.length:=hi2
      simp[bs_len,hb0,hx3,hdot,hx1,h46,h0,h3,hn,hg,hmd,w,ci]
      refine⟨DrawT.mk (by kernel_rfl),?_⟩
      refine BrT.dec (fun ce=>?_) (fun ce=>?_)
      · have hc:signsL[i]?=some c:=by
          rw[hat] at ce
          have e:c=signsL.getD i 0:=UInt8.toNat_inj.1 (by omega)
          rw[e,List.getD_eq_getElem?_getD,List.getElem?_eq_getElem hsl];rfl
        have hm:c∈signsL:=List.mem_of_getElem? hc
        simp[bs_len,hb0,hx3,hdot,hx1,h46,h0,h3,hn,hg,hmd,w,ci,ce,hm]
        omega
      · have hc:signsL[i]?≠some c:=fun e=>ce (by
          rw[hat,List.getD_eq_getElem?_getD,e];rfl)
        simp[bs_len,hb0,hx3,hdot,hx1,h46,h0,h3,hn,hg,hmd,w,ci,ce]
        refine⟨⟨i+1,hi2,fun j hj=>?_,rfl⟩,upTo_lt h3 (by simp) hi2⟩
        · rcases Nat.lt_or_ge j i with h | h
          · exact hno j h
          · have:j=i:=by omega
            rw[this];exact hc
    · have hm:¬ c∈signsL:=fun h=>by
        obtain⟨j,hj,e⟩:=List.getElem_of_mem h
        have hj2:j<12:=hj
        exact hno j (by omega) (by rw[List.getElem?_eq_getElem hj,e])
      simp[bs_len,hb0,hx3,hdot,hx1,h46,h0,h3,hn,hg,hmd,w,ci,hm]
theorem wordL_yes {c:UInt8}{r:List UInt8} (h:(letU c || figU c)=true):wordL (c::r)=c::wordL r:=by
  unfold wordL;rw[List.takeWhile_cons,h];rfl
theorem wordL_no {c:UInt8}{r:List UInt8} (h:(letU c || figU c)=false):wordL (c::r)=[]:=by
  unfold wordL;rw[List.takeWhile_cons,h];rfl
set_option maxHeartbeats 2000000 in
theorem p_l1Word (l:List UInt8) (hl:l.length≤1048576):PCall Tryz.prog gl 328 [dS (bs l)] (dS (bs (wordL l))):=by
  refine PCall.by_ (md:=[]) Tryz.func328 rfl (by kernel_rfl) (n:=25) Tryz.ntmps328 (by simp) (by decide) rfl ?_
  simp
  refine LoopT.round (fun E S=>∃ (i:Nat),(i≤l.length)∧(wordL l=l.take i++wordL (l.drop i))∧E 0=some (.d (dS (bs l)))∧E 3=some (.d (dI i))) (upTo 3 l.length) ⟨0,by simp⟩ ?_
  rintro E S hk ⟨i,hi,hp,h0,h3⟩
  have hn:S.n=25:=by first | (simpa using hk.n)|(have hh:=hk.n;simp at hh;exact hh)
  have hg:S.gl=gl:=by first | (simpa using hk.gl)|(have hh:=hk.gl;simp at hh;exact hh)
  have hmd:S.md=[]:=by first | (simpa using hk.md)|(have hh:=hk.md;simp at hh;exact hh)
  simp[h0,h3,hn,hg,hmd]
  have hx:(bs l).extract 0 i=bs (l.take i):=by rw[bs_from,List.drop_zero]
  have w:=wrap64 (n:=(i:Int)+1) (by omega) (by omega)
  refine BrT.dec (fun c1=>?_) (fun c1=>?_)
  · have hi2:i<l.length:=by simpa[bs_len] using c1
    have hb:=byteI_bs l i hi2
    have hd:l.drop i=l[i]::l.drop (i+1):=List.drop_eq_getElem_cons hi2
    have ht:l.take (i+1)=l.take i++[l[i]]:=List.take_succ_eq_append_getElem hi2
    generalize l[i]=c at hb hd ht
    have go:(letU c || figU c)=true→wordL l=l.take (i+1)++wordL (l.drop (i+1)):=fun h=>by rw[hp,hd,wordL_yes h,ht];simp
    have no:(letU c || figU c)=false→wordL l=l.take i:=fun h=>by rw[hp,hd,wordL_no h];simp
    simp[h0,h3,hn,hg,hmd,bs_len,hx,w,c1,hb,hi2]
    repeat refine⟨DrawT.mk (by kernel_rfl),?_⟩
    refine CallT.p0 ((p_l1Letter _)) (by first | rfl | (simp;done)|(simp[h0,h3,hn,hg,hmd,bs_len,hx,w,c1,hb,hi2];done)) (by first | rfl | (simp;done)|(simp;rfl)|(simp[h0,h3,hn,hg,hmd,bs_len,hx,w,c1,hb,hi2];done)) ?_
    simp[h0,h3,hn,hg,hmd,bs_len,hx,w,c1,hb,hi2]
    refine BrT.mk (fun c2=>?_) (fun c2=>?_)
    · simp[h0,h3,hn,hg,hmd,bs_len,hx,w,c1,hb,hi2,c2]
      exact⟨⟨i+1,hi2,go (by unfold letU;rw[c2];rfl),rfl⟩,upTo_lt h3 (by simp) hi2⟩
    · simp[h0,h3,hn,hg,hmd,bs_len,hx,w,c1,hb,hi2,c2]
      repeat refine⟨DrawT.mk (by kernel_rfl),?_⟩
      refine CallT.p0 ((p_l1Figure _)) (by first | rfl | (simp;done)|(simp[h0,h3,hn,hg,hmd,bs_len,hx,w,c1,hb,hi2,c2];done)) (by first | rfl | (simp;done)|(simp;rfl)|(simp[h0,h3,hn,hg,hmd,bs_len,hx,w,c1,hb,hi2,c2];done)) ?_
      simp[h0,h3,hn,hg,hmd,bs_len,hx,w,c1,hb,hi2,c2]
      refine BrT.mk (fun c3=>?_) (fun c3=>?_)
      · simp[h0,h3,hn,hg,hmd,bs_len,hx,w,c1,hb,hi2,c2,c3]
        exact⟨⟨i+1,hi2,go (by unfold letU figU;rw[c2,c3];rfl),rfl⟩,upTo_lt h3 (by simp) hi2⟩
      · simp[h0,h3,hn,hg,hmd,bs_len,hx,w,c1,hb,hi2,c2,c3]
        exact⟨by omega,by rw[no (by unfold letU figU;rw[c2,c3];rfl)]⟩
  · have hi3 : i = l.length := by have : ¬ i < l.length := by simpa [bs_len] using c1
                                  omega
    subst hi3
    simp[h0,h3,hn,hg,hmd,bs_len,hx,w,c1]
    rw[hp];simp[wordL]
end Go.Proofs.YtbmoiajdknejnaaGreat
namespace Go.Proofs.YtbmoiajdknejnaaGreat
open Go.Sh
theorem any_take {α:Type}{p:α→Bool}{l:List α}{i:Nat} (hi:i<l.length):(l.take (i+1)).any p=((l.take i).any p || p l[i]):=by
  rw[List.take_succ_eq_append_getElem hi,List.any_append];simp
def noUp {α:Type} (p:α→Bool) (l:List α) (i:Nat):Prop:=(l.take i).any p=false
theorem noUp_zero {α:Type} (p:α→Bool) (l:List α):noUp p l 0:=rfl
theorem noUp_next {α:Type}{p:α→Bool}{l:List α}{i:Nat} (hi:i<l.length) (h:noUp p l i) (hp:p l[i]=false):noUp p l (i+1):=by
  unfold noUp at h ⊢
  rw[any_take hi,h,hp];rfl
theorem noUp_all {α:Type}{p:α→Bool}{l:List α} (h:noUp p l l.length):l.any p=false:=by
  unfold noUp at h
  rwa [List.take_length] at h
theorem any_at {α:Type}{p:α→Bool}{l:List α}{i:Nat} (hi:i<l.length) (h:p l[i]=true):l.any p=true:=List.any_eq_true.2 ⟨_,List.getElem_mem hi,h⟩
def AsD (s t:SV):Prop:=s=t∨∃ d,s.toD=some d∧t=.d d
def AsDs:List SV→List SV→Prop
  | [],[]=>True
  | s::ss,t::ts=>AsD s t∧AsDs ss ts
  | _,_=>False
theorem AsDs.at:∀ {ss ts:List SV},AsDs ss ts→ss.length=ts.length∧∀ j (h:j<ss.length) (h':j<ts.length),AsD ss[j] ts[j]
  | [],[],_=>⟨rfl,fun j h=>by cases h⟩
  | s::ss,t::ts,h=>by
    obtain⟨h1,h2⟩:=AsDs.at h.2
    refine⟨by simp[h1],fun j hj hj'=>?_⟩
    cases j with
    | zero=>exact h.1
    | succ j=>exact h2 j (by simpa using hj) (by simpa using hj')
theorem LCall.as {P:Program}{f:FuncId}{ss ts:List SV}{S S':St}{r:SV} (h:LCall P f ts S r S') (ha:AsDs ss ts):LCall P f ss S r S':=by
  obtain⟨a1,a2⟩:=ha.at
  refine⟨h.1,h.2.1,fun m0 w0 G E F a w vals hr hF hl hv=>h.2.2 m0 w0 G E F a w vals hr hF (by omega) fun j hj hj'=>?_⟩
  have:=hv j (by omega) hj'
  rcases a2 j (by omega) hj with e | ⟨d,e1,e2⟩
  · rw[← e];exact this
  · rw[e2];exact .d (this.toD e1)
def AccN (S0 S:St) (X:SV) (k:List ByteArray):Prop:=(k=[]∧X=.fl [] 0)∨∃ q,S0.nx≤q∧q<S.nx∧X=.tp q 0 (k.map dS) k.length∧S.T q=some (k.length,1)
theorem AccN.nil {S0 S:St}:AccN S0 S (.fl [] 0) []:=.inl ⟨rfl,rfl⟩
theorem AccN.toD {S0 S:St}{X:SV}{k:List ByteArray} (h:AccN S0 S X k):X.toD=some (namesD k):=by
  rcases h with ⟨rfl,rfl⟩ | ⟨q,_,_,rfl,_⟩<;>rfl
theorem AccN.mono {S0 S S':St}{X:SV}{k:List ByteArray} (h:AccN S0 S X k) (hn:S.nx≤S'.nx) (hT:∀ i,i<S.nx→S'.T i=S.T i):AccN S0 S' X k :=
  h.imp id fun ⟨q,h1,h2,h3,h4⟩=>⟨q,h1,by omega,h3,(hT q h2).trans h4⟩
theorem AccN.add {P:Program}{S0 S:St}{X:SV}{k l:List ByteArray}{id:Nat}{dst:Option Nat}{T e:TypeId}{by_:Nat} (h:AccN S0 S X k) (hT:appOf P T=some (e,1,by_)) (hmd:S.md=[]) (hid:S0.nx≤id) (hid2:id<S.nx) (hb:appBound k.length l.length by_) :
    ∃ X' E',evalAppend P S id dst T X (.d (namesD l))=some (X',E')∧AccN S0 (S.app id E') X' (k++l)∧(S.app id E').B=S.B∧(S.app id E').nx=S.nx∧(S.app id E').n=S.n∧(S.app id E').gl=S.gl∧(S.app id E').md=S.md∧∀ i,i<S0.nx→(S.app id E').T i=S.T i:=by
  have hr:rowS (.d (namesD l))=some (l.map dS,l.length):=by simp
  rcases h with ⟨rfl,rfl⟩ | ⟨q,h1,h2,rfl,h3⟩
  · by_cases hl:l.length=0
    · refine⟨.fl [] 0, .no,?_, .inl ⟨by simp[List.eq_nil_of_length_eq_zero hl],rfl⟩,rfl,rfl,rfl,rfl,rfl,fun _ _=>rfl⟩
      rw[evalAppend_fl,hr,hT]
      simp[appFl,hl]
    · refine⟨.tp id 0 (l.map dS) l.length, .tip id l.length 1,?_, .inr ⟨id,hid,hid2,by simp,by simp⟩,rfl,rfl,rfl,rfl,rfl,fun i hi=>?_⟩
      · rw[evalAppend_fl,hr,hT,hmd]
        have hl2:¬ l=[]:=fun e=>hl (by rw[e];rfl)
        have hb:appBound 0 l.length by_:=hb
        simp[appFl,hl,hl2,onlyIf,hb]
      · simp;omega
  · refine⟨.tp q 0 ((k++l).map dS) (k++l).length, .tip q (k.length+l.length) 1,?_, .inr ⟨q,h1,h2,rfl,by simp⟩,rfl,rfl,rfl,rfl,rfl,fun i hi=>?_⟩
    · rw[evalAppend_tp,hr,hT]
      simp[appTp,onlyIf,h3,hb]
    · simp;omega
structure SameB (S S':St):Prop where
  B:S'.B=S.B
  nx:S'.nx=S.nx
  n:S'.n=S.n
  gl:S'.gl=S.gl
  md:S'.md=S.md
theorem OpT_addN {P:Program}{S0 S1 S:St}{X:SV}{k l:List ByteArray}{id:Nat}{dst:Option Nat}{T e:TypeId}{by_:Nat}{K:Bool→SV→Eff→Prop} (h:AccN S0 S1 X k) (hn:S1.nx≤S.nx) (hTT:∀ i,i<S1.nx→S.T i=S1.T i) (hT:appOf P T=some (e,1,by_)) (hmd:S.md=[]) (hid:S0.nx≤id) (hid2:id<S.nx) (hb:appBound k.length l.length by_)
    (hK:∀ X' S' E',S.app id E'=S'→AccN S0 S' X' (k++l)→SameB S S'→(∀ i,i<S0.nx→S'.T i=S.T i)→K true X' E'):OpT (evalAppend P S id dst T X (.d (namesD l))) K:=by
  obtain⟨X',E',h1,h2,h3,h4,h5,h6,h7,h8⟩:=(h.mono hn hTT).add (id:=id) (dst:=dst) (l:=l) hT hmd hid hid2 hb
  rw[h1]
  exact hK X' _ E' rfl h2 ⟨h3,h4,h5,h6,h7⟩ h8
theorem LCall_T {P:Program}{f:FuncId}{ss:List SV}{r:SV}{S:St}{k:Nat}{L:List (Nat×List SV)} (h:LCall P f ss S r (leftS S k L [])):LCall P f ss S r { S with B:=leftF S.nx S.B L,nx:=S.nx+k }:=by
  refine⟨h.1,⟨h.2.1.n,h.2.1.md,h.2.1.gl,h.2.1.nx⟩,fun m0 w0 G E F a w vals hr hF hl hv=>?_⟩
  have e:leftS S k L []={ S with B:=leftF S.nx S.B L,nx:=S.nx+k }:=by
    have hT:(leftS S k L []).T=S.T:=funext fun x=>by
      simp only[leftS_T,leftF_nil]
      split
      · rfl
      · rename_i hx
        cases hb:S.T x with
        | none=>rfl
        | some p =>
          exfalso
          have hf:=hF x (by omega)
          obtain⟨k,sz⟩:=p
          obtain⟨B,v,_,_,cap,_,h1,_⟩:=hr.tip x k sz hb
          rw[(hr.fresh x hf).2] at h1;cases h1
    show ({ S with B:=leftF S.nx S.B L,T:=(leftS S k L []).T,nx:=S.nx+k }:St)=_
    rw[hT]
  have k:=h.2.2 m0 w0 G E F a w vals hr hF hl hv
  rw[e] at k
  exact k
theorem OwnK.left {P:Program}{g:FuncId}{ss:List SV}{S:St}{base top:Nat}{r:SV}{k:Nat}{L:List (Nat×List SV)} (h:∀ S1:St,S1.nx=S.nx→S1.gl=S.gl→LCall P g ss S1 r (leftS S1 k L [])) (ht:top≤S.nx) (hL:∀ p∈L,top≤p.1) :
    OwnK P g ss S base top r (fun B0=>leftF S.nx B0 L) (S.nx+k):=by
  have no:∀ q,q<top→lookN L q=none:=fun q hq=>by
    cases hx:lookN L q with
    | none=>rfl
    | some y=>have:=hL _ (lookN_mem hx);simp only at this;omega
  refine⟨fun S1 k1 k2 k3 k4 k5 k6=>?_,fun B0 q cs hq=>?_,fun B0 b hb=>?_,fun B0 C b hb=>?_⟩
  · have:=LCall_T (h S1 k2 k3)
    rw[k2] at this
    exact this
  · funext x
    simp only[upd]
    by_cases e:x=q
    · subst e
      rw[leftF_old (no x hq) (by omega)];simp
    · simp[leftF,upd,e]
  · exact leftF_old (no b hb) (by omega)
  · simp only[leftF,hb]
end Go.Proofs.YtbmoiajdknejnaaGreat
namespace Go.Proofs.YtbmoiajdknejnaaGreat
open Go.Sh
variable {gl:Nat→Option D}
theorem OpT_addF {P:Program}{S0 S1 S:St}{X:SV}{k l:List ByteArray}{id:Nat}{dst:Option Nat}{T e:TypeId}{by_:Nat}{K:Bool→SV→Eff→Prop} (h:AccN S0 S1 X k) (hn:S1.nx≤S.nx) (hTT:∀ i,i<S1.nx→S.T i=S1.T i) (hT:appOf P T=some (e,1,by_)) (hmd:S.md=[]) (hid:S0.nx≤id) (hid2:id<S.nx) (hb:appBound k.length l.length by_)
    (hK:∀ X' S' E',S.app id E'=S'→AccN S0 S' X' (k++l)→SameB S S'→(∀ i,i<S0.nx→S'.T i=S.T i)→K true X' E'):OpT (evalAppend P S id dst T X (.fl (l.map dS) l.length)) K:=by
  have e:evalAppend P S id dst T X (.fl (l.map dS) l.length)=evalAppend P S id dst T X (.d (namesD l)):=rfl
  rw[e]
  exact OpT_addN h hn hTT hT hmd hid hid2 hb hK
theorem signU_ne {c:UInt8} (h:plainU c=true):c≠46:=by rintro rfl;revert h;decide
theorem bs_nil_iff (l:List UInt8):bs l=⟨#[]⟩↔l=[]:=bs_inj (b:=[])
theorem wordL_len (l:List UInt8):(wordL l).length≤l.length:=(List.takeWhile_prefix _).length_le
theorem oneL_sign {c:UInt8} (r:List UInt8) (h:signU c=true):oneL (c::r)=[c]:=if_pos h
theorem oneL_word {c:UInt8} (r:List UInt8) (h:signU c=false):oneL (c::r)=wordL (c::r):=if_neg (by rw[h];simp)
set_option maxHeartbeats 2000000 in
theorem p_l3One (c:UInt8) (r:List UInt8) (hp:plainU c=true) (hb:blankU c=false) (hl:r.length+1≤1048576):PCall Tryz.prog gl 289 [dS (bs (c::r))] (dS (bs (oneL (c::r)))):=by
  have hb0:byteI (bs (c::r)) 0=(c.toNat:Int):=byteI_bs _ 0 (by simp)
  have hs:=fun gl=>p_l3Sign (gl:=gl) c r (signU_ne hp) (by omega)
  cases hc:signU c with
  | true =>
    rw[hc] at hs
    have ho:oneL (c::r)=[c]:=oneL_sign r hc
    rw[ho]
    have hne:¬ bs [c]=⟨#[]⟩:=by rw[bs_nil_iff];simp
    refine PCall.by_ (md:=[]) Tryz.func289 rfl (by kernel_rfl) (n:=56) Tryz.ntmps289 (by simp) (by decide) rfl ?_
    simp
    repeat refine⟨DrawT.mk (by kernel_rfl),?_⟩
    refine CallT.p0 ((hs _)) (by first | rfl | (simp;done)|(simp[hne];done)) (by first | rfl | (simp;done)|(simp;rfl)|(simp[hne];done)) ?_
    simp[hne]
    repeat refine⟨DrawT.mk (by kernel_rfl),?_⟩
    refine CallT.p0 ((hs _)) (by first | rfl | (simp;done)|(simp[hne];done)) (by first | rfl | (simp;done)|(simp;rfl)|(simp[hne];done)) ?_
    simp[hne]
  | false =>
    rw[hc] at hs
    have hlet:letU c=true:=by
      unfold plainU at hp
      rw[hb,hc] at hp
      simpa using hp
    have ho:oneL (c::r)=wordL (c::r):=oneL_word r hc
    have hl2:letterB (c.toNat:Int)=true:=hlet
    rw[ho]
    refine PCall.by_ (md:=[]) Tryz.func289 rfl (by kernel_rfl) (n:=56) Tryz.ntmps289 (by simp) (by decide) rfl ?_
    simp[bs_len,hb0,hl2]
    repeat refine⟨DrawT.mk (by kernel_rfl),?_⟩
    refine CallT.p0 ((hs _)) (by first | rfl | (simp;done)|(simp[bs_len,hb0,hl2];done)) (by first | rfl | (simp;done)|(simp;rfl)|(simp[bs_len,hb0,hl2];done)) ?_
    simp[bs_len,hb0,hl2]
    repeat refine⟨DrawT.mk (by kernel_rfl),?_⟩
    refine CallT.p0 ((p_l1Letter _)) (by first | rfl | (simp;done)|(simp[bs_len,hb0,hl2];done)) (by first | rfl | (simp;done)|(simp;rfl)|(simp[bs_len,hb0,hl2];done)) ?_
    simp[bs_len,hb0,hl2]
    repeat refine⟨DrawT.mk (by kernel_rfl),?_⟩
    refine CallT.p0 ((p_l1Word (c::r) (by simpa using hl))) (by first | rfl | (simp;done)|(simp[bs_len,hb0,hl2];done)) (by first | rfl | (simp;done)|(simp;rfl)|(simp[bs_len,hb0,hl2];done)) ?_
    simp[bs_len,hb0,hl2]
def wordsG:Nat→List UInt8→List (List UInt8)
  | 0,_=>[]
  | _+1,[]=>[]
  | f+1,c::r=>oneL (c::r)::wordsG f (gapL ((c::r).drop (oneL (c::r)).length))
def wordsL (l:List UInt8):List (List UInt8):=wordsG l.length (gapL l)
theorem oneL_pos (c:UInt8) (r:List UInt8) (hp:plainU c=true) (hb:blankU c=false):0<(oneL (c::r)).length:=by
  cases hc:signU c with
  | true=>rw[oneL_sign r hc];exact Nat.zero_lt_one
  | false =>
    have hlet:letU c=true:=by
      unfold plainU at hp
      rw[hb,hc] at hp
      simpa using hp
    rw[oneL_word r hc,wordL_yes (by rw[hlet];rfl)];exact Nat.zero_lt_succ _
theorem oneL_le (c:UInt8) (r:List UInt8):(oneL (c::r)).length≤r.length+1:=by
  cases hc:signU c with
  | true=>rw[oneL_sign r hc];exact Nat.succ_le_succ (Nat.zero_le _)
  | false=>rw[oneL_word r hc];exact wordL_len (c::r)
set_option maxHeartbeats 4000000 in
theorem p_Words (l:List UInt8) (hp:∀ c∈l,plainU c=true) (hl:l.length≤1500):PCall Tryz.prog gl 251 [dS (bs l)] (.tup [namesD ((wordsL l).map bs),dB true]):=by
  refine PCall.by_ (md:=[]) Tryz.func251 rfl (by kernel_rfl) (n:=32) Tryz.ntmps251 (by simp) (by decide) rfl ?_
  have hl0:¬ (1500:Int)<l.length:=by omega
  simp[bs_len,hl0]
  repeat refine⟨DrawT.mk (by kernel_rfl),?_⟩
  refine CallT.p0 ((p_l3Gap l hp (by omega))) (by first | rfl | (simp;done)|(simp[bs_len,hl0];done)) (by first | rfl | (simp;done)|(simp;rfl)|(simp[bs_len,hl0];done)) ?_
  simp[bs_len,hl0]
  refine LoopT.round (fun E S=>∃ (f:Nat) (r:List UInt8) (k:List (List UInt8)) (X:SV),(AccN (startS gl [] 0) S X (k.map bs))∧(wordsL l=k++wordsG f r)∧(r.length≤f)∧(∀ c∈r,plainU c=true)∧(∀ c q,r=c::q→blankU c=false)∧(k.length+r.length≤l.length)∧E 4=some (X)∧E 5=some (.d (dS (bs r)))) (fun E _=>match E 5 with | some (.d (.v (.string s)))=>s.size | _=>0) ⟨l.length,gapL l,[], .fl [] 0,by simp[bs_len,hl0];exact⟨AccN.nil,rfl,gapL_len l,fun c h=>hp c (gapL_mem h),fun c q h=>by have:=gapL_head h;simpa[blankU] using this,gapL_len l⟩⟩ ?_
  rintro E S hk ⟨f,r,k,X,hA,hr,hf,hm,hb,hkl,h4,h5⟩
  have hn:S.n=32:=by first | (simpa using hk.n)|(have hh:=hk.n;simp[bs_len,hl0] at hh;exact hh)
  have hg:S.gl=gl:=by first | (simpa using hk.gl)|(have hh:=hk.gl;simp[bs_len,hl0] at hh;exact hh)
  have hmd:S.md=[]:=by first | (simpa using hk.md)|(have hh:=hk.md;simp[bs_len,hl0] at hh;exact hh)
  simp[bs_len,hl0,h4,h5,hn,hg,hmd]
  cases r with
  | nil =>
    have hw:wordsL l=k:=by rw[hr];cases f<;>simp[wordsG]
    rw[hw]
    rcases hA with ⟨h0,rfl⟩ | ⟨q,_,_,rfl,_⟩
    · have:k=[]:=by simpa using h0
      subst this
      simp[bs_len,hl0,h4,h5,hn,hg,hmd]
    · simp[bs_len,hl0,h4,h5,hn,hg,hmd]
  | cons c r =>
    have hf2:r.length+1≤f:=by simpa using hf
    obtain⟨f,rfl⟩:∃ g,f=g+1:=⟨f - 1,by omega⟩
    have hkl2:k.length+(r.length+1)≤l.length:=by simpa using hkl
    have pc:=hm c (by simp)
    have bc:=hb c r rfl
    have op:=oneL_pos c r pc bc
    have ol:=oneL_le c r
    have one:=fun gl=>p_l3One (gl:=gl) c r pc bc (by omega)
    have hw:wordsL l=(k++[oneL (c::r)])++wordsG f (gapL ((c::r).drop (oneL (c::r)).length)):=by rw[hr];simp[wordsG]
    have hmw:∀ x∈(c::r).drop (oneL (c::r)).length,plainU x=true:=fun x hx=>hm x (List.mem_of_mem_drop hx)
    have hdl:((c::r).drop (oneL (c::r)).length).length+(oneL (c::r)).length=r.length+1:=by simp;omega
    have gap:=fun gl=>p_l3Gap (gl:=gl) ((c::r).drop (oneL (c::r)).length) hmw (by omega)
    have hne:¬ bs (oneL (c::r))=⟨#[]⟩:=by rw[bs_nil_iff];intro e;rw[e] at op;simp at op
    have hsl:(bs (c::r)).extract (oneL (c::r)).length (r.length+1)=bs ((c::r).drop (oneL (c::r)).length):=by
      rw[bs_from,List.take_of_length_le (by simp)]
    generalize hO:oneL (c::r)=w at *
    simp[bs_len,hl0,h4,h5,hn,hg,hmd,hne,hsl]
    repeat refine⟨DrawT.mk (by kernel_rfl),?_⟩
    refine CallT.p0 ((one _)) (by first | rfl | (simp;done)|(simp[bs_len,hl0,h4,h5,hn,hg,hmd,hne,hsl];done)) (by first | rfl | (simp;done)|(simp;rfl)|(simp[bs_len,hl0,h4,h5,hn,hg,hmd,hne,hsl];done)) ?_
    simp[bs_len,hl0,h4,h5,hn,hg,hmd,hne,hsl]
    refine OpT_addF (l:=[bs w]) (e:=9) (by_:=16) hA (by first | (simp;done)|(simp;omega)) (fun _ _=>rfl) (by kernel_rfl) (by simp[hmd]) (by simp) (by simp) (by unfold appBound;simp;omega) ?_
    intro X2 S2 E9 hE9 S2_A S2_B S2_T
    rw[hE9]
    have S2_nx:=S2_B.nx
    have S2_n:=S2_B.n
    have S2_gl:=S2_B.gl
    have S2_md:=S2_B.md
    simp at S2_nx S2_n S2_gl S2_md
    simp[bs_len,hl0,h4,h5,hn,hg,hmd,hne,hsl,S2_nx,S2_n,S2_gl,S2_md]
    refine⟨by omega,?_⟩
    have gl2:=fun (x:UInt8) (h:x∈gapL ((c::r).drop w.length))=>hmw x (gapL_mem h)
    have gle:=gapL_len ((c::r).drop w.length)
    generalize hq:(c::r).drop w.length=q at *
    repeat refine⟨DrawT.mk (by kernel_rfl),?_⟩
    refine CallT.p0 ((gap _)) (by first | rfl | (simp;done)|(simp[bs_len,hl0,h4,h5,hn,hg,hmd,hne,hsl,S2_nx,S2_n,S2_gl,S2_md];done)) (by first | rfl | (simp;done)|(simp;rfl)|(simp[bs_len,hl0,h4,h5,hn,hg,hmd,hne,hsl,S2_nx,S2_n,S2_gl,S2_md];done)) ?_
    simp[bs_len,hl0,h4,h5,hn,hg,hmd,hne,hsl,S2_nx,S2_n,S2_gl,S2_md]
    refine⟨⟨f,gapL q,k++[w],X2,?_,by rw[hw],by omega,gl2,fun x y h=>by have:=gapL_head h;simpa[blankU] using this,by simp;omega,rfl,rfl⟩,by omega⟩
    rw[List.map_append]
    exact S2_A.mono (by simp) (fun _ _=>rfl)
def wd (ws:List ByteArray) (i:Nat):ByteArray:=ws.getD i ⟨#[]⟩
abbrev rdC (ws:List ByteArray) (i:Nat) (bad:Bool):List SV:=[.d (namesD ws), .d (dI i), .d (dB bad)]
theorem p_peek (ws:List ByteArray) (i:Nat) (bad:Bool) (hl:ws.length≤1048576) (hi:i≤1048577):PCall Tryz.prog gl 294 [.pp [namesD ws,dI i,dB bad] 0] (dS (wd ws i)):=by
  refine PCall.by_ (md:=[]) Tryz.func294 rfl (by kernel_rfl) (n:=23) Tryz.ntmps294 (by simp) (by decide) rfl ?_
  simp
  refine⟨DrawT.mk (by kernel_rfl),?_⟩
  refine BrT.dec (fun c=>?_) (fun c=>?_)
  · have hi2:i<ws.length:=by omega
    have hw:ws[i]=wd ws i:=by unfold wd;rw[List.getD_eq_getElem?_getD,List.getElem?_eq_getElem hi2];rfl
    simp[c,hi2]
    refine⟨DrawT.mk (by kernel_rfl),?_⟩
    simp[c,hi2,hw]
  · have hw:wd ws i=⟨#[]⟩:=by unfold wd;rw[List.getD_eq_getElem?_getD,List.getElem?_eq_none (by omega)];rfl
    simp[c,hw]
theorem rd_frz {B:Nat→Option (List SV)}{R:Nat}{ws:List ByteArray}{i:Nat}{bad:Bool} (h:B R=some (rdC ws i bad)):mapO (frz B 3) [.op R 0]=some [.pp [namesD ws,dI i,dB bad] 0]:=by
  have h1:frz B 3 (.op R 0)=some (.pp [namesD ws,dI i,dB bad] 0):=by
    show (match B R with | some cs=>(mapO (frz B 2) cs).map fun ds=>D.pp ds 0 | none=>none)=_
    rw[h];rfl
  simp[mapO,h1]
theorem l_peek {S:St}{R:Nat}{ws:List ByteArray}{i:Nat}{bad:Bool} (h:S.B R=some (rdC ws i bad)) (hl:ws.length≤1048576) (hi:i≤1048577):LCall Tryz.prog 294 [.op R 0] S (.d (dS (wd ws i))) S :=
  LCall.ofP (p_peek ws i bad hl hi) (rd_frz h)
set_option maxHeartbeats 2000000 in
theorem l_next (S0:St) (R:Nat) (ws:List ByteArray) (i:Nat) (bad:Bool) (hR:R<S0.nx) (h:S0.B R=some (rdC ws i bad)) (hl:ws.length≤1048576) (hi:i≤1048576) :
    ∃ r S',LCall Tryz.prog 290 [.op R 0] S0 r S'∧(r=.d (dS (wd ws i))∧Got S0 S' R (rdC ws (i+1) bad) []):=by
  have w:=wrap64 (n:=(i:Int)+1) (by omega) (by omega)
  refine LCall.ex_ (md:=[]) Tryz.func290 rfl (by kernel_rfl) (by kernel_rfl) (n:=15) Tryz.ntmps290 (by simp) (by decide) rfl ?_
  simp[h,w]
  refine CallT.l (l_peek (ws:=ws) (i:=i) (bad:=bad) (by simp[h,w]) hl (by omega)) rfl ?_
  simp[h,w]
  exact⟨rfl,rfl,rfl,(by first | (simp;done)|(simp;omega)),by simp,fun x h1 h2=>by simp[h2],fun x h1=>rfl, .nil⟩
set_option maxHeartbeats 2000000 in
theorem l_must (S0:St) (R:Nat) (ws:List ByteArray) (i:Nat) (bad:Bool) (s:ByteArray) (hR:R<S0.nx) (h:S0.B R=some (rdC ws i bad)) (hl:ws.length≤1048576) (hi:i≤1048576) (hs:wd ws i=s) :
    ∃ r S',LCall Tryz.prog 293 [.op R 0, .d (dS s)] S0 r S'∧Got S0 S' R (rdC ws (i+1) bad) []:=by
  refine LCall.ex_ (md:=[]) Tryz.func293 rfl (by kernel_rfl) (by kernel_rfl) (n:=11) Tryz.ntmps293 (by simp) (by decide) rfl ?_
  simp[h]
  refine CallT.x (l_next _ R ws i bad (by simp;omega) (by simp[h]) hl hi) rfl (fun r1 S1 ⟨e1,hG1⟩=>?_)
  subst e1
  have S1_n:=hG1.n
  try simp[h] at S1_n
  have S1_gl:=hG1.gl
  try simp[h,S1_n] at S1_gl
  have S1_md:=hG1.md
  try simp[h,S1_n,S1_gl] at S1_md
  have S1_nx:=hG1.nx
  try simp[h,S1_n,S1_gl,S1_md] at S1_nx
  have S1_rd:=hG1.rd
  simp[h,S1_n,S1_gl,S1_md,S1_rd,hs]
  exact⟨rfl,rfl,rfl,by simp;omega,S1_rd,fun x h1 h2=>hG1.old x (by simp;omega) h2,fun x h1=>hG1.T x (by simp;omega), .nil⟩
set_option maxHeartbeats 2000000 in
theorem l_name (S0:St) (R:Nat) (ws:List ByteArray) (i:Nat) (bad:Bool) (hR:R<S0.nx) (h:S0.B R=some (rdC ws i bad)) (hl:ws.length≤1048576) (hi:i≤1048576) (hs:nameB (wd ws i)=true) (hz:(wd ws i).size≤1048576) :
    ∃ r S',LCall Tryz.prog 291 [.op R 0] S0 r S'∧(r=.d (dS (wd ws i))∧Got S0 S' R (rdC ws (i+1) bad) []):=by
  refine LCall.ex_ (md:=[]) Tryz.func291 rfl (by kernel_rfl) (by kernel_rfl) (n:=13) Tryz.ntmps291 (by simp) (by decide) rfl ?_
  simp[h]
  refine CallT.x (l_next _ R ws i bad (by simp;omega) (by simp[h]) hl hi) rfl (fun r1 S1 ⟨e1,hG1⟩=>?_)
  subst e1
  have S1_n:=hG1.n
  try simp[h] at S1_n
  have S1_gl:=hG1.gl
  try simp[h,S1_n] at S1_gl
  have S1_md:=hG1.md
  try simp[h,S1_n,S1_gl] at S1_md
  have S1_nx:=hG1.nx
  try simp[h,S1_n,S1_gl,S1_md] at S1_nx
  have S1_rd:=hG1.rd
  simp[h,S1_n,S1_gl,S1_md,S1_rd]
  repeat refine⟨DrawT.mk (by kernel_rfl),?_⟩
  refine CallT.p0 ((p_l1Name (wd ws i) (by omega))) (by first | rfl | (simp;done)|(simp[h,S1_n,S1_gl,S1_md,S1_rd];done)) (by first | rfl | (simp;done)|(simp;rfl)|(simp[h,S1_n,S1_gl,S1_md,S1_rd];done)) ?_
  simp[h,S1_n,S1_gl,S1_md,S1_rd]
  simp[h,S1_n,S1_gl,S1_md,S1_rd,hs]
  exact⟨rfl,rfl,rfl,by simp;omega,S1_rd,fun x h1 h2=>hG1.old x (by simp;omega) h2,fun x h1=>hG1.T x (by simp;omega), .nil⟩
theorem wd_lt {ws:List ByteArray}{i:Nat} (h:wd ws i≠⟨#[]⟩):i<ws.length:=by
  rcases Nat.lt_or_ge i ws.length with h1 | h1
  · exact h1
  · exact absurd (by unfold wd;rw[List.getD_eq_getElem?_getD,List.getElem?_eq_none h1];rfl) h
theorem nameB_size {s:ByteArray} (h:nameB s=true):1≤s.size∧s.size≤12:=by
  unfold nameB at h
  simp only[Bool.and_eq_true,decide_eq_true_eq] at h
  omega
theorem nameB_lt {ws:List ByteArray}{i:Nat} (h:nameB (wd ws i)=true):i<ws.length:=wd_lt fun e=>by
  rw[e] at h
  have:=(nameB_size h).1
  exact absurd this (by decide)
def pTyp0 (ws:List ByteArray) (rec:Nat→Option (Typ×Nat)) (d i:Nat):Option ((ByteArray×List Typ)×Nat) :=
  if wd ws i=⟨#[91]⟩∧0<d then (match rec (i+1) with | some (v,j)=>if wd ws j=⟨#[93]⟩ then some ((⟨#[]⟩,[v]),j+1) else none | none=>none)
  else if nameB (wd ws i)=true then some ((wd ws i,[]),i+1) else none
def pTyp1 (ws:List ByteArray):Option ((ByteArray×List Typ)×Nat)→Option (Typ×Nat)
  | some ((t,l),j)=>if wd ws j=⟨#[33]⟩ then some (.mk t l true,j+1) else some (.mk t l false,j)
  | none=>none
def pTyp (ws:List ByteArray):Nat→Nat→Option (Typ×Nat)
  | 0,_=>none
  | d+1,i=>pTyp1 ws (pTyp0 ws (pTyp ws d) d i)
theorem pTyp1_some {ws:List ByteArray}{o:Option ((ByteArray×List Typ)×Nat)}{v:Typ}{j:Nat} (h:pTyp1 ws o=some (v,j)):∃ t l q,o=some ((t,l),q)∧((wd ws q=⟨#[33]⟩∧v=.mk t l true∧j=q+1)∨(wd ws q≠⟨#[33]⟩∧v=.mk t l false∧j=q)):=by
  unfold pTyp1 at h
  split at h
  · rename_i t l q
    refine⟨t,l,q,rfl,?_⟩
    split at h
    · rename_i hw
      cases h
      exact .inl ⟨hw,rfl,rfl⟩
    · rename_i hw
      cases h
      exact .inr ⟨hw,rfl,rfl⟩
  · cases h
theorem pTyp0_some {ws:List ByteArray}{rec:Nat→Option (Typ×Nat)}{d i q:Nat}{t:ByteArray}{l:List Typ} (h:pTyp0 ws rec d i=some ((t,l),q)):(∃ v j,wd ws i=⟨#[91]⟩∧0<d∧rec (i+1)=some (v,j)∧wd ws j=⟨#[93]⟩∧t=⟨#[]⟩∧l=[v]∧q=j+1)∨(¬ wd ws i=⟨#[91]⟩∧nameB (wd ws i)=true∧t=wd ws i∧l=[]∧q=i+1):=by
  unfold pTyp0 at h
  split at h
  · rename_i h1
    split at h
    · rename_i v j hv
      split at h
      · rename_i hj
        cases h
        exact .inl ⟨v,j,h1.1,h1.2,hv,hj,rfl,rfl,rfl⟩
      · cases h
    · cases h
  · split at h
    · rename_i h2
      cases h
      refine .inr ⟨fun e=>?_,h2,rfl,rfl,rfl⟩
      rw[e] at h2
      exact absurd h2 (by decide)
    · cases h
theorem pTyp_le {ws:List ByteArray}:∀ {d i j:Nat}{v:Typ},pTyp ws d i=some (v,j)→i<j∧j≤ws.length
  | 0,_,_,_,h=>by cases h
  | d+1,i,j,v,h=>by
    obtain⟨t,l,q,h1,h2⟩:=pTyp1_some h
    have hq:i<q∧q≤ws.length:=by
      rcases pTyp0_some h1 with ⟨v1,j1,_,_,h3,h4,_,_,rfl⟩ | ⟨_,h3,_,_,rfl⟩
      · have:=pTyp_le h3
        have:=wd_lt (ws:=ws) (i:=j1) (by rw[h4];decide)
        omega
      · have:=nameB_lt h3
        omega
    rcases h2 with ⟨h2,_,rfl⟩ | ⟨_,_,rfl⟩
    · have:=wd_lt (ws:=ws) (i:=q) (by rw[h2];decide)
      omega
    · exact hq
theorem callt_gen {lo:Lo}{P:Program}{g:FuncId}{ss:List SV}{S:St}{K:Bool→SV→St→Prop}{Q:St→Prop} (hQ:Q S) (h:∀ S',Q S'→CallT lo P g ss S' K):CallT lo P g ss S K:=h S hQ
structure TypI (S0 S:St) (R u v:Nat) (ws:List ByteArray) (q:Nat) (t:ByteArray) (l:List Typ) (x:Ld) (md:List Nat):Prop where
  n:S.n=34
  gl:S.gl=S0.gl
  md:S.md=md
  nx:v+1≤S.nx
  rd:S.B R=some (rdC ws q false)
  res:S.B u=some [.d (dS ⟨#[]⟩), .fl [] 0, .d (dB false)]
  out:S.B v=some [.d (dS t),x.sv, .d (dB false)]
  sh:x.sh=skZ 3 l.length (typsZ l)
  at':At S (v+1) S.nx [x]
  old:∀ y,y<u→y≠R→S.B y=S0.B y
  T:∀ y,y<u→S.T y=S0.T y
set_option maxHeartbeats 8000000 in
theorem l_typ (ws:List ByteArray) (hl:ws.length≤1048576):∀ (d:Nat) (S0:St) (R i:Nat) (tt:Typ) (j:Nat),pTyp ws d i=some (tt,j)→R<S0.nx→S0.B R=some (rdC ws i false)→d≤1048576→
    ∃ r S',LCall Tryz.prog 331 [.op R 0, .d (dI d)] S0 r S'∧∃ X,r=.ag (svs X)∧shs X=tt.sz∧Got S0 S' R (rdC ws j false) X
  | 0,S0,R,i,tt,j,hp,hR,h,hd=>by cases hp
  | d+1,S0,R,i,tt,j,hp,hR,h,hd=>by
    have hj:=pTyp_le hp
    obtain⟨t,l,q,hp0,hp1⟩:=pTyp1_some hp
    have hq:q≤ws.length:=by rcases hp1 with ⟨_,_,rfl⟩ | ⟨_,_,rfl⟩<;>omega
    refine LCall.ex_ (md:=[20,1000020]) Tryz.func331 rfl (by kernel_rfl) (by kernel_rfl) (n:=34) Tryz.ntmps331 (by simp) (by decide) rfl ?_
    simp[h]
    generalize hv:S0.nx+1+1=v at *
    generalize hu:S0.nx=u at *
    have n1:¬ R=u:=by omega
    have n2:¬ R=v:=by omega
    have n4:¬ u=v:=by omega
    have n5:¬ v=u:=by omega
    refine CallT.l (l_peek (ws:=ws) (i:=i) (bad:=false) (by simp[h,n1,n2,n4,n5]) hl (by omega)) rfl ?_
    rcases pTyp0_some hp0 with ⟨v1,j1,e1,e2,e3,e4,rfl,rfl,hqe⟩ | ⟨e1,e2,rfl,rfl,hqe⟩
    case' inl =>
      have hj1:=pTyp_le e3
      have d1:((d+1:Nat):Int) - 1=(d:Int):=by omega
      have d2:(1:Int)<(d:Int)+1:=by omega
      have w1:=wrap64 (n:=(d:Int)) (by omega) (by omega)
      have hj2:=wd_lt (ws:=ws) (i:=j1) (by rw[e4];decide)
      simp[h,n1,n2,n4,n5,e1,d1,d2,w1]
      refine CallT.x (l_next _ R ws i false (by simp;omega) (by simp[h,n1,n2,n4,n5,e1,d1,d2,w1]) hl (by omega)) rfl (fun r1 S1 h1=>?_)
      obtain⟨q1,hG1⟩:=h1
      subst q1
      have S1_n:=hG1.n
      try simp[h,n1,n2,n4,n5,e1,d1,d2,w1] at S1_n
      have S1_gl:=hG1.gl
      try simp[h,n1,n2,n4,n5,e1,d1,d2,w1,S1_n] at S1_gl
      have S1_md:=hG1.md
      try simp[h,n1,n2,n4,n5,e1,d1,d2,w1,S1_n,S1_gl] at S1_md
      have S1_nx:=hG1.nx
      try simp[h,n1,n2,n4,n5,e1,d1,d2,w1,S1_n,S1_gl,S1_md] at S1_nx
      have S1_rd:=hG1.rd
      simp[h,n1,n2,n4,n5,e1,d1,d2,w1,S1_n,S1_gl,S1_md,S1_rd]
      refine CallT.x (l_typ ws hl d _ R (i+1) v1 j1 e3 (by simp;omega) (by simp[h,n1,n2,n4,n5,e1,d1,d2,w1,S1_n,S1_gl,S1_md,S1_rd]) (by omega)) rfl (fun r2 S2 h2=>?_)
      obtain⟨X,q2,hX,hG2⟩:=h2
      subst q2
      have S2_n:=hG2.n
      try simp[h,n1,n2,n4,n5,e1,d1,d2,w1,S1_n,S1_gl,S1_md,S1_rd] at S2_n
      have S2_gl:=hG2.gl
      try simp[h,n1,n2,n4,n5,e1,d1,d2,w1,S1_n,S1_gl,S1_md,S1_rd,S2_n] at S2_gl
      have S2_md:=hG2.md
      try simp[h,n1,n2,n4,n5,e1,d1,d2,w1,S1_n,S1_gl,S1_md,S1_rd,S2_n,S2_gl] at S2_md
      have S2_nx:=hG2.nx
      try simp[h,n1,n2,n4,n5,e1,d1,d2,w1,S1_n,S1_gl,S1_md,S1_rd,S2_n,S2_gl,S2_md] at S2_nx
      have S2_rd:=hG2.rd
      have hv2:=hG2.old v (by simp;omega) (by omega)
      have hv1:=hG1.old v (by simp;omega) (by omega)
      have hu2:=hG2.old u (by simp;omega) (by omega)
      have hu1:=hG1.old u (by simp;omega) (by omega)
      simp[n4,n5] at hv1 hv2 hu1 hu2
      rw[hv1] at hv2
      rw[hu1] at hu2
      have hXl:X.length=3:=by rw[← shs_len,hX];simp
      have hXl2:(svs X).length=3:=by simp[hXl]
      have m1:∀ a,¬ v=S1.nx+a:=fun a=>by omega
      have m2:∀ a,¬ u=S1.nx+a:=fun a=>by omega
      have m3:∀ a,¬ S1.nx+a=v:=fun a=>by omega
      have m4:∀ a,¬ S1.nx+a=u:=fun a=>by omega
      have m5:∀ a,¬ R=S1.nx+a:=fun a=>by omega
      simp[h,n1,n2,n4,n5,e1,d1,d2,w1,S1_n,S1_gl,S1_md,S1_rd,S2_n,S2_gl,S2_md,S2_rd,hv2,hu2,hXl2,m1,m2,m3,m4,m5]
      refine CallT.x (l_must _ R ws j1 false ⟨#[93]⟩ (by simp;omega) (by simp[h,n1,n2,n4,n5,e1,d1,d2,w1,S1_n,S1_gl,S1_md,S1_rd,S2_n,S2_gl,S2_md,S2_rd,hv2,hu2,hXl2,m1,m2,m3,m4,m5]) hl (by omega) e4) rfl (fun r3 S3 hG3=>?_)
      have S3_n:=hG3.n
      try simp[h,n1,n2,n4,n5,e1,d1,d2,w1,S1_n,S1_gl,S1_md,S1_rd,S2_n,S2_gl,S2_md,S2_rd,hv2,hu2,hXl2,m1,m2,m3,m4,m5] at S3_n
      have S3_gl:=hG3.gl
      try simp[h,n1,n2,n4,n5,e1,d1,d2,w1,S1_n,S1_gl,S1_md,S1_rd,S2_n,S2_gl,S2_md,S2_rd,hv2,hu2,hXl2,m1,m2,m3,m4,m5,S3_n] at S3_gl
      have S3_md:=hG3.md
      try simp[h,n1,n2,n4,n5,e1,d1,d2,w1,S1_n,S1_gl,S1_md,S1_rd,S2_n,S2_gl,S2_md,S2_rd,hv2,hu2,hXl2,m1,m2,m3,m4,m5,S3_n,S3_gl] at S3_md
      have S3_nx:=hG3.nx
      try simp[h,n1,n2,n4,n5,e1,d1,d2,w1,S1_n,S1_gl,S1_md,S1_rd,S2_n,S2_gl,S2_md,S2_rd,hv2,hu2,hXl2,m1,m2,m3,m4,m5,S3_n,S3_gl,S3_md] at S3_nx
      have S3_rd:=hG3.rd
      have hv3:=hG3.old v (by simp;omega) (by omega)
      have hu3:=hG3.old u (by simp;omega) (by omega)
      have hb3:=hG3.old (S1.nx+4) (by simp;omega) (fun e=>m5 _ e.symm)
      simp[h,n1,n2,n4,n5,e1,d1,d2,w1,S1_n,S1_gl,S1_md,S1_rd,S2_n,S2_gl,S2_md,S2_rd,hv2,hu2,hXl2,m1,m2,m3,m4,m5,S3_n,S3_gl,S3_md,S3_rd] at hv3 hu3 hb3
      simp[h,n1,n2,n4,n5,e1,d1,d2,w1,S1_n,S1_gl,S1_md,S1_rd,S2_n,S2_gl,S2_md,S2_rd,hv2,hu2,hXl2,m1,m2,m3,m4,m5,S3_n,S3_gl,S3_md,S3_rd]
      refine callt_gen (Q:=fun S=>TypI S0 S R u v ws q ⟨#[]⟩ [v1] (.row (some 3) (S1.nx+4) 1 X) [20,1000020]) ⟨?_,?_,?_,?_,?_,?_,?_,?_,?_,?_,?_⟩ (fun S hI=>?_)
      · simp[h,n1,n2,n4,n5,e1,d1,d2,w1,S1_n,S1_gl,S1_md,S1_rd,S2_n,S2_gl,S2_md,S2_rd,hv2,hu2,hXl2,m1,m2,m3,m4,m5,S3_n,S3_gl,S3_md,S3_rd]
      · simp[h,n1,n2,n4,n5,e1,d1,d2,w1,S1_n,S1_gl,S1_md,S1_rd,S2_n,S2_gl,S2_md,S2_rd,hv2,hu2,hXl2,m1,m2,m3,m4,m5,S3_n,S3_gl,S3_md,S3_rd]
      · simp[h,n1,n2,n4,n5,e1,d1,d2,w1,S1_n,S1_gl,S1_md,S1_rd,S2_n,S2_gl,S2_md,S2_rd,hv2,hu2,hXl2,m1,m2,m3,m4,m5,S3_n,S3_gl,S3_md,S3_rd]
      · simp;omega
      · rw[hqe];simp[h,n1,n2,n4,n5,e1,d1,d2,w1,S1_n,S1_gl,S1_md,S1_rd,S2_n,S2_gl,S2_md,S2_rd,hv2,hu2,hXl2,m1,m2,m3,m4,m5,S3_n,S3_gl,S3_md,S3_rd]
      · simp[h,n1,n2,n4,n5,e1,d1,d2,w1,S1_n,S1_gl,S1_md,S1_rd,S2_n,S2_gl,S2_md,S2_rd,hv2,hu2,hXl2,m1,m2,m3,m4,m5,S3_n,S3_gl,S3_md,S3_rd,hu3]
      · simp[h,n1,n2,n4,n5,e1,d1,d2,w1,S1_n,S1_gl,S1_md,S1_rd,S2_n,S2_gl,S2_md,S2_rd,hv2,hu2,hXl2,m1,m2,m3,m4,m5,S3_n,S3_gl,S3_md,S3_rd,hv3]
      · exact row_sh (by rw[hX];simp[typsZ]) (by omega)
      · have hn:=hG2.new
        simp at hn
        refine .row (by simpa using hb3) (by omega) (by simp;omega) ((hn.keep fun b k1 k2=>?_).le (by omega) (by simp;omega)) (fun p hp=>by have:=hn.rng p hp;omega)
        have a3:=hG3.old b (by simp;omega) (by omega)
        have y2:¬ b=v:=by omega
        have y3:¬ b=S1.nx+4:=by omega
        simp[y2,y3] at a3
        exact a3
      · intro y k1 k2
        have a3:=hG3.old y (by simp;omega) k2
        have a2:=hG2.old y (by simp;omega) k2
        have a1:=hG1.old y (by simp;omega) k2
        have y1:¬ y=u:=by omega
        have y2:¬ y=v:=by omega
        have y3:¬ y=S1.nx+4:=by omega
        simp[y1,y2,y3] at a1 a2 a3
        exact a3.trans (a2.trans a1)
      · intro y k1
        have a3:=hG3.T y (by simp;omega)
        have a2:=hG2.T y (by simp;omega)
        have a1:=hG1.T y (by simp;omega)
        simp at a1 a2 a3
        exact a3.trans (a2.trans a1)
      generalize S3.nx=base
      generalize Ld.row (some 3) (S1.nx+4) 1 X=x at hI
    case' inr =>
      simp[h,n1,n2,n4,n5,e1]
      refine CallT.x (l_name _ R ws i false (by simp;omega) (by simp[h,n1,n2,n4,n5,e1]) hl (by omega) e2 (by have:=nameB_size e2;omega)) rfl (fun r1 S1 h1=>?_)
      obtain⟨q1,hG1⟩:=h1
      subst q1
      have S1_n:=hG1.n
      try simp[h,n1,n2,n4,n5,e1] at S1_n
      have S1_gl:=hG1.gl
      try simp[h,n1,n2,n4,n5,e1,S1_n] at S1_gl
      have S1_md:=hG1.md
      try simp[h,n1,n2,n4,n5,e1,S1_n,S1_gl] at S1_md
      have S1_nx:=hG1.nx
      try simp[h,n1,n2,n4,n5,e1,S1_n,S1_gl,S1_md] at S1_nx
      have S1_rd:=hG1.rd
      have hv1:=hG1.old v (by simp;omega) (by omega)
      have hu1:=hG1.old u (by simp;omega) (by omega)
      simp[n4,n5] at hv1 hu1
      simp[h,n1,n2,n4,n5,e1,S1_n,S1_gl,S1_md,S1_rd,hv1,hu1]
      refine callt_gen (Q:=fun S=>TypI S0 S R u v ws q (wd ws i) [] .nil [20,1000020]) ⟨?_,?_,?_,?_,?_,?_,?_,?_,?_,?_,?_⟩ (fun S hI=>?_)
      · simp[h,n1,n2,n4,n5,e1,S1_n,S1_gl,S1_md,S1_rd,hv1,hu1]
      · simp[h,n1,n2,n4,n5,e1,S1_n,S1_gl,S1_md,S1_rd,hv1,hu1]
      · simp[h,n1,n2,n4,n5,e1,S1_n,S1_gl,S1_md,S1_rd,hv1,hu1]
      · simp;omega
      · rw[hqe];simp[h,n1,n2,n4,n5,e1,S1_n,S1_gl,S1_md,S1_rd,hv1,hu1]
      · simp[h,n1,n2,n4,n5,e1,S1_n,S1_gl,S1_md,S1_rd,hv1,hu1]
      · simp[h,n1,n2,n4,n5,e1,S1_n,S1_gl,S1_md,S1_rd,hv1,hu1]
      · simp[Ld.sh]
      · exact .cons_nil .nil
      · intro y k1 k2
        have a1:=hG1.old y (by simp;omega) k2
        have y1:¬ y=u:=by omega
        have y2:¬ y=v:=by omega
        simp[y1,y2] at a1 ⊢
        exact a1
      · intro y k1
        have a1:=hG1.T y (by simp;omega)
        simp at a1 ⊢
        exact a1
      generalize S1.nx=base
      generalize Ld.nil=x at hI
    all_goals
      obtain⟨I1,I2,I3,I4,I5,I6,I7,I8,I9,I10,I11⟩:=hI
      refine CallT.l (l_peek I5 hl (by omega)) rfl ?_
      obtain⟨z1,z2,z3⟩:=z_one I8
      rcases hp1 with ⟨wq,rfl,rfl⟩ | ⟨wq,rfl,rfl⟩
      · have wq':=wq
        simp[h,n1,n2,n4,n5,I1,I2,I3,I5,I6,I7,z1,z2,z3,wq]
        refine CallT.x (l_next _ R ws q false (by simp;omega) (by simp[h,n1,n2,n4,n5,I1,I2,I3,I5,I6,I7,z1,z2,z3,wq]) hl (by omega)) rfl (fun r4 S4 h4=>?_)
        obtain⟨q4,hG4⟩:=h4
        subst q4
        have S4_n:=hG4.n
        try simp[h,n1,n2,n4,n5,I1,I2,I3,I5,I6,I7,z1,z2,z3,wq] at S4_n
        have S4_gl:=hG4.gl
        try simp[h,n1,n2,n4,n5,I1,I2,I3,I5,I6,I7,z1,z2,z3,wq,S4_n] at S4_gl
        have S4_md:=hG4.md
        try simp[h,n1,n2,n4,n5,I1,I2,I3,I5,I6,I7,z1,z2,z3,wq,S4_n,S4_gl] at S4_md
        have S4_nx:=hG4.nx
        try simp[h,n1,n2,n4,n5,I1,I2,I3,I5,I6,I7,z1,z2,z3,wq,S4_n,S4_gl,S4_md] at S4_nx
        have S4_rd:=hG4.rd
        have hv4:=hG4.old v (by simp;omega) (by omega)
        have hu4:=hG4.old u (by simp;omega) (by omega)
        simp[h,n1,n2,n4,n5,I1,I2,I3,I5,I6,I7,z1,z2,z3,wq,S4_n,S4_gl,S4_md,S4_rd] at hv4 hu4
        simp[h,n1,n2,n4,n5,I1,I2,I3,I5,I6,I7,z1,z2,z3,wq,S4_n,S4_gl,S4_md,S4_rd,hv4,hu4]
        refine⟨[.d (.string _),x, .d (.bool true)],rfl,by simp[shs,Ld.sh,Typ.sz,I8],rfl,rfl,rfl,by simp;omega,?_,?_,?_,?_⟩
        · simp[n1,n2];exact S4_rd
        · intro y k1 k2
          have a4:=hG4.old y (by simp;omega) k2
          have y1:¬ y=u:=by omega
          have y2:¬ y=v:=by omega
          simp[y1,y2] at a4 ⊢
          exact a4.trans (I10 y (by omega) k2)
        · intro y k1
          have a4:=hG4.T y (by simp;omega)
          simp at a4 ⊢
          exact a4.trans (I11 y (by omega))
        · refine .cons_d (.app (a:=[x]) (mid:=S.nx) ((I9.keep fun b k1 k2=>?_).le (by omega) (Nat.le_refl _)) (.cons_d .nil) (by omega) (by first | (simp;done)|(simp;omega)))
          have a4:=hG4.old b (by simp;omega) (by omega)
          have y1:¬ b=u:=by omega
          have y2:¬ b=v:=by omega
          simp[y1,y2] at a4 ⊢
          exact a4
      · have wq':=wq
        simp[h,n1,n2,n4,n5,I1,I2,I3,I5,I6,I7,z1,z2,z3,wq]
        refine⟨[.d (.string _),x, .d (.bool false)],rfl,by simp[shs,Ld.sh,Typ.sz,I8],rfl,rfl,rfl,by simp;omega,?_,?_,?_,?_⟩
        · simp[n1,n2];exact I5
        · intro y k1 k2
          have y1:¬ y=u:=by omega
          simp[y1]
          exact I10 y (by omega) k2
        · intro y k1
          exact I11 y (by omega)
        · refine .cons_d (.app (a:=[x]) (mid:=S.nx) ((I9.keep fun b k1 k2=>?_).le (by omega) (Nat.le_refl _)) (.cons_d .nil) (by omega) (by first | (simp;done)|(simp;omega)))
          have y1:¬ b=u:=by omega
          simp[y1]
def wordVB (s:ByteArray):Bool:=nameB s&&decide (¬ s=⟨#[116,114,117,101]⟩∧¬ s=⟨#[102,97,108,115,101]⟩∧¬ s=⟨#[110,117,108,108]⟩)
theorem nameB_first {s:ByteArray} (h:nameB s=true):letterB (byteI s 0)=true:=by
  have hs:=(nameB_size h).1
  unfold nameB at h
  simp only[Bool.and_eq_true] at h
  cases hl:letterB (byteI s 0) with
  | true=>rfl
  | false =>
    have:nameP s 0=false:=by simp[nameP,hl]
    have:=allTo_false (show 0<s.size by omega) this
    rw[this] at h;simp at h
theorem letter_not {n:Int} (h:letterB n=true):¬ n=34∧¬ n=45∧¬ n=36∧¬ n=91∧¬ n=123∧figureB n=false:=by
  unfold letterB at h
  unfold figureB
  simp only[Bool.or_eq_true,Bool.and_eq_true,decide_eq_true_eq] at h
  refine⟨by omega,by omega,by omega,by omega,by omega,?_⟩
  simp only[Bool.and_eq_false_iff,decide_eq_false_iff_not]
  omega
set_option maxHeartbeats 4000000 in
theorem l_valueW (S0:St) (R:Nat) (ws:List ByteArray) (i d:Nat) (hR:R<S0.nx) (h:S0.B R=some (rdC ws i false)) (hl:ws.length≤1048576) (hi:i≤1048576) (hd:1≤d) (hd2:d≤1048576) (hs:wordVB (wd ws i)=true) :
    ∃ r S',LCall Tryz.prog 332 [.op R 0, .d (dI d)] S0 r S'∧∃ X,r=.ag (svs X)∧shs X=(Val.mk 7 0 (wd ws i) [] []).sz∧Got S0 S' R (rdC ws (i+1) false) X:=by
  unfold wordVB at hs
  simp only[Bool.and_eq_true,decide_eq_true_eq] at hs
  obtain⟨hs0,hs1,hs2,hs3⟩:=hs
  obtain⟨b1,b2,b3,b4,b5,b6⟩:=letter_not (nameB_first hs0)
  have hsz:=nameB_size hs0
  have c0:¬ wd ws i=⟨#[]⟩:=fun e=>by rw[e] at hsz;exact absurd hsz.1 (by decide)
  have c1:¬ wd ws i=⟨#[36]⟩:=fun e=>by rw[e] at b3;exact absurd rfl b3
  have c2:¬ wd ws i=⟨#[91]⟩:=fun e=>by rw[e] at b4;exact absurd rfl b4
  have c3:¬ wd ws i=⟨#[123]⟩:=fun e=>by rw[e] at b5;exact absurd rfl b5
  have hdd:¬ (d:Int)<1:=by omega
  have hs4:0<(wd ws i).size:=by omega
  refine LCall.ex_ (md:=[]) Tryz.func332 rfl (by kernel_rfl) (by kernel_rfl) (n:=91) Tryz.ntmps332 (by simp) (by decide) rfl ?_
  simp[h]
  generalize hu:S0.nx=u at *
  have n1:¬ R=u:=by omega
  have n2:¬ u=R:=by omega
  refine CallT.x (l_next _ R ws i false (by simp;omega) (by simp[h,n1,n2,hs1,hs2,hs3,b1,b2,b6,c0,c1,c2,c3,hdd,hs4]) hl (by omega)) rfl (fun r1 S1 h1=>?_)
  obtain⟨q1,hG1⟩:=h1
  subst q1
  have S1_n:=hG1.n
  try simp[h,n1,n2,hs1,hs2,hs3,b1,b2,b6,c0,c1,c2,c3,hdd,hs4] at S1_n
  have S1_gl:=hG1.gl
  try simp[h,n1,n2,hs1,hs2,hs3,b1,b2,b6,c0,c1,c2,c3,hdd,hs4,S1_n] at S1_gl
  have S1_md:=hG1.md
  try simp[h,n1,n2,hs1,hs2,hs3,b1,b2,b6,c0,c1,c2,c3,hdd,hs4,S1_n,S1_gl] at S1_md
  have S1_nx:=hG1.nx
  try simp[h,n1,n2,hs1,hs2,hs3,b1,b2,b6,c0,c1,c2,c3,hdd,hs4,S1_n,S1_gl,S1_md] at S1_nx
  have S1_rd:=hG1.rd
  have hu1:=hG1.old u (by simp;omega) (by omega)
  simp at hu1
  simp[h,n1,n2,hs1,hs2,hs3,b1,b2,b6,c0,c1,c2,c3,hdd,hs4,S1_n,S1_gl,S1_md,S1_rd,hu1]
  repeat refine⟨DrawT.mk (by kernel_rfl),?_⟩
  refine CallT.p0 ((p_l1Figure _)) (by first | rfl | (simp;done)|(simp[h,n1,n2,hs1,hs2,hs3,b1,b2,b6,c0,c1,c2,c3,hdd,hs4,S1_n,S1_gl,S1_md,S1_rd,hu1];done)) (by first | rfl | (simp;done)|(simp;rfl)|(simp[h,n1,n2,hs1,hs2,hs3,b1,b2,b6,c0,c1,c2,c3,hdd,hs4,S1_n,S1_gl,S1_md,S1_rd,hu1];done)) ?_
  simp[h,n1,n2,hs1,hs2,hs3,b1,b2,b6,c0,c1,c2,c3,hdd,hs4,S1_n,S1_gl,S1_md,S1_rd,hu1]
  repeat refine⟨DrawT.mk (by kernel_rfl),?_⟩
  refine CallT.p0 ((p_l1Name (wd ws i) (by omega))) (by first | rfl | (simp;done)|(simp[h,n1,n2,hs1,hs2,hs3,b1,b2,b6,c0,c1,c2,c3,hdd,hs4,S1_n,S1_gl,S1_md,S1_rd,hu1];done)) (by first | rfl | (simp;done)|(simp;rfl)|(simp[h,n1,n2,hs1,hs2,hs3,b1,b2,b6,c0,c1,c2,c3,hdd,hs4,S1_n,S1_gl,S1_md,S1_rd,hu1];done)) ?_
  simp[h,n1,n2,hs1,hs2,hs3,b1,b2,b6,c0,c1,c2,c3,hdd,hs4,S1_n,S1_gl,S1_md,S1_rd,hu1]
  simp[h,n1,n2,hs1,hs2,hs3,b1,b2,b6,c0,c1,c2,c3,hdd,hs4,S1_n,S1_gl,S1_md,S1_rd,hu1,hs0]
  refine⟨[.d (.int .i64 7), .d (.int .i64 0), .d (.string (wd ws i)), .nil, .nil],rfl,by simp[shs,Ld.sh,Val.sz,skT],rfl,rfl,rfl,by simp;omega,?_,?_,?_,?_⟩
  · simp[n1];exact S1_rd
  · intro y k1 k2
    have a1:=hG1.old y (by simp;omega) k2
    have y1:¬ y=u:=by omega
    simp[y1] at a1 ⊢
    exact a1
  · intro y k1
    have a1:=hG1.T y (by simp;omega)
    simp at a1 ⊢
    exact a1
  · exact .cons_d (.cons_d (.cons_d (.cons_nil (.cons_nil .nil))))
end Go.Proofs.YtbmoiajdknejnaaGreat
namespace Go.Proofs.YtbmoiajdknejnaaGreat
open Go.Sh
abbrev noVal:Val:=.mk 0 0 ⟨#[]⟩ [] []
def pArg (ws:List ByteArray) (i:Nat):Option (Arg×Nat) :=
  if nameB (wd ws i)=true∧wd ws (i+1)=⟨#[58]⟩ then match pTyp ws 3 (i+2) with
    | some (t,j)=>if wd ws j=⟨#[61]⟩ then (if wordVB (wd ws (j+1))=true then some (⟨wd ws i,t,true, .mk 7 0 (wd ws (j+1)) [] []⟩,j+2) else none) else some (⟨wd ws i,t,false,noVal⟩,j)
    | none=>none
  else none
theorem pArg_some {ws:List ByteArray}{i k:Nat}{a:Arg} (h:pArg ws i=some (a,k)):nameB (wd ws i)=true∧wd ws (i+1)=⟨#[58]⟩∧∃ t j,pTyp ws 3 (i+2)=some (t,j) ∧
    ((wd ws j=⟨#[61]⟩∧wordVB (wd ws (j+1))=true∧a=⟨wd ws i,t,true, .mk 7 0 (wd ws (j+1)) [] []⟩∧k=j+2)∨(¬ wd ws j=⟨#[61]⟩∧a=⟨wd ws i,t,false,noVal⟩∧k=j)):=by
  unfold pArg at h
  split at h
  · rename_i h0
    refine⟨h0.1,h0.2,?_⟩
    split at h
    · rename_i t j ht
      refine⟨t,j,ht,?_⟩
      split at h
      · rename_i h1
        split at h
        · rename_i h2
          cases h;exact .inl ⟨h1,h2,rfl,rfl⟩
        · cases h
      · rename_i h1
        cases h;exact .inr ⟨h1,rfl,rfl⟩
    · cases h
  · cases h
theorem wordVB_name {s:ByteArray} (h:wordVB s=true):nameB s=true:=by
  unfold wordVB at h
  simp only[Bool.and_eq_true] at h
  exact h.1
theorem pArg_le {ws:List ByteArray}{i k:Nat}{a:Arg} (h:pArg ws i=some (a,k)):i<k∧k≤ws.length:=by
  obtain⟨_,_,t,j,h1,h2⟩:=pArg_some h
  have:=pTyp_le h1
  rcases h2 with ⟨_,h3,_,rfl⟩ | ⟨_,_,rfl⟩
  · have:=nameB_lt (wordVB_name h3)
    omega
  · omega
def pArgs (ws:List ByteArray):Nat→Nat→Option (List Arg×Nat)
  | 0,_=>none
  | f+1,i=>if wd ws i=⟨#[41]⟩ then some ([],i) else match pArg ws i with
    | some (a,j)=>match pArgs ws f j with
      | some (l,k)=>some (a::l,k)
      | none=>none
    | none=>none
theorem pArgs_some {ws:List ByteArray}{f i k:Nat}{l:List Arg} (h:pArgs ws (f+1) i=some (l,k)):(wd ws i=⟨#[41]⟩∧l=[]∧k=i)∨(¬ wd ws i=⟨#[41]⟩∧∃ a j r,pArg ws i=some (a,j)∧pArgs ws f j=some (r,k)∧l=a::r):=by
  unfold pArgs at h
  split at h
  · rename_i h0;cases h;exact .inl ⟨h0,rfl,rfl⟩
  · rename_i h0
    split at h
    · rename_i a j ha
      split at h
      · rename_i r k' hr
        cases h;exact .inr ⟨h0,a,j,r,ha,hr,rfl⟩
      · cases h
    · cases h
theorem pArgs_le {ws:List ByteArray}:∀ {f i k:Nat}{l:List Arg},pArgs ws f i=some (l,k)→i≤k∧k<ws.length∧wd ws k=⟨#[41]⟩
  | 0,_,_,_,h=>by cases h
  | f+1,i,k,l,h=>by
    rcases pArgs_some h with ⟨h1,_,rfl⟩ | ⟨_,a,j,r,h1,h2,_⟩
    · exact⟨Nat.le_refl _,wd_lt (by rw[h1];decide),h1⟩
    · have:=pArg_le h1
      have:=pArgs_le h2
      exact⟨by omega,this.2⟩
def pBra (ws:List ByteArray) (i:Nat):Option (List Arg×Nat) :=
  if wd ws i=⟨#[40]⟩ then match pArgs ws ws.length (i+1) with
    | some (a::l,j)=>some (a::l,j+1)
    | _=>none
  else some ([],i)
theorem pBra_some {ws:List ByteArray}{i k:Nat}{l:List Arg} (h:pBra ws i=some (l,k)):(wd ws i=⟨#[40]⟩∧l≠[]∧∃ j,pArgs ws ws.length (i+1)=some (l,j)∧k=j+1)∨(¬ wd ws i=⟨#[40]⟩∧l=[]∧k=i):=by
  unfold pBra at h
  split at h
  · rename_i h0
    split at h
    · rename_i a l' j hj
      cases h;exact .inl ⟨h0,by simp,j,hj,rfl⟩
    · cases h
  · rename_i h0
    cases h;exact .inr ⟨h0,rfl,rfl⟩
def pFld (ws:List ByteArray) (i:Nat):Option (Fld×Nat) :=
  if nameB (wd ws i)=true then match pBra ws (i+1) with
    | some (l,j)=>if wd ws j=⟨#[58]⟩ then match pTyp ws 3 (j+1) with
      | some (t,k)=>some (⟨wd ws i,l,t⟩,k)
      | none=>none
      else none
    | none=>none
  else none
theorem pFld_some {ws:List ByteArray}{i k:Nat}{a:Fld} (h:pFld ws i=some (a,k)):nameB (wd ws i)=true∧∃ l j t,pBra ws (i+1)=some (l,j)∧wd ws j=⟨#[58]⟩∧pTyp ws 3 (j+1)=some (t,k)∧a=⟨wd ws i,l,t⟩:=by
  unfold pFld at h
  split at h
  · rename_i h0
    refine⟨h0,?_⟩
    split at h
    · rename_i l j hl
      split at h
      · rename_i h1
        split at h
        · rename_i t k' ht
          cases h;exact⟨l,j,t,hl,h1,ht,rfl⟩
        · cases h
      · cases h
    · cases h
  · cases h
theorem pFld_le {ws:List ByteArray}{i k:Nat}{a:Fld} (h:pFld ws i=some (a,k)):i<k∧k≤ws.length:=by
  obtain⟨_,l,j,t,h1,_,h2,_⟩:=pFld_some h
  have:=pTyp_le h2
  rcases pBra_some h1 with ⟨_,_,j',h3,rfl⟩ | ⟨_,_,rfl⟩
  · have:=pArgs_le h3;omega
  · omega
def pFlds (ws:List ByteArray):Nat→Nat→Option (List Fld×Nat)
  | 0,_=>none
  | f+1,i=>if wd ws i=⟨#[125]⟩ then some ([],i) else match pFld ws i with
    | some (a,j)=>match pFlds ws f j with
      | some (l,k)=>some (a::l,k)
      | none=>none
    | none=>none
theorem pFlds_some {ws:List ByteArray}{f i k:Nat}{l:List Fld} (h:pFlds ws (f+1) i=some (l,k)):(wd ws i=⟨#[125]⟩∧l=[]∧k=i)∨(¬ wd ws i=⟨#[125]⟩∧∃ a j r,pFld ws i=some (a,j)∧pFlds ws f j=some (r,k)∧l=a::r):=by
  unfold pFlds at h
  split at h
  · rename_i h0;cases h;exact .inl ⟨h0,rfl,rfl⟩
  · rename_i h0
    split at h
    · rename_i a j ha
      split at h
      · rename_i r k' hr
        cases h;exact .inr ⟨h0,a,j,r,ha,hr,rfl⟩
      · cases h
    · cases h
theorem pFlds_le {ws:List ByteArray}:∀ {f i k:Nat}{l:List Fld},pFlds ws f i=some (l,k)→i≤k∧k<ws.length∧wd ws k=⟨#[125]⟩
  | 0,_,_,_,h=>by cases h
  | f+1,i,k,l,h=>by
    rcases pFlds_some h with ⟨h1,_,rfl⟩ | ⟨_,a,j,r,h1,h2,_⟩
    · exact⟨Nat.le_refl _,wd_lt (by rw[h1];decide),h1⟩
    · have:=pFld_le h1
      have:=pFlds_le h2
      exact⟨by omega,this.2⟩
def pWds (ws:List ByteArray):Nat→Nat→Option (List ByteArray×Nat)
  | 0,_=>none
  | f+1,i=>if wd ws i=⟨#[125]⟩ then some ([],i) else if nameB (wd ws i)=true then match pWds ws f (i+1) with
    | some (l,k)=>some (wd ws i::l,k)
    | none=>none
    else none
theorem pWds_some {ws:List ByteArray}{f i k:Nat}{l:List ByteArray} (h:pWds ws (f+1) i=some (l,k)):(wd ws i=⟨#[125]⟩∧l=[]∧k=i)∨(¬ wd ws i=⟨#[125]⟩∧nameB (wd ws i)=true∧∃ r,pWds ws f (i+1)=some (r,k)∧l=wd ws i::r):=by
  unfold pWds at h
  split at h
  · rename_i h0;cases h;exact .inl ⟨h0,rfl,rfl⟩
  · rename_i h0
    split at h
    · rename_i h1
      split at h
      · rename_i r k' hr
        cases h;exact .inr ⟨h0,h1,r,hr,rfl⟩
      · cases h
    · cases h
theorem pWds_le {ws:List ByteArray}:∀ {f i k:Nat}{l:List ByteArray},pWds ws f i=some (l,k)→i≤k∧k<ws.length∧wd ws k=⟨#[125]⟩
  | 0,_,_,_,h=>by cases h
  | f+1,i,k,l,h=>by
    rcases pWds_some h with ⟨h1,_,rfl⟩ | ⟨_,_,r,h2,_⟩
    · exact⟨Nat.le_refl _,wd_lt (by rw[h1];decide),h1⟩
    · have:=pWds_le h2
      exact⟨by omega,this.2⟩
def pAlts (ws:List ByteArray):Nat→Nat→Option (List ByteArray×Nat)
  | 0,_=>none
  | f+1,i=>if wd ws i=⟨#[124]⟩ then (if nameB (wd ws (i+1))=true then match pAlts ws f (i+2) with
    | some (l,k)=>some (wd ws (i+1)::l,k)
    | none=>none
    else none) else some ([],i)
theorem pAlts_some {ws:List ByteArray}{f i k:Nat}{l:List ByteArray} (h:pAlts ws (f+1) i=some (l,k)):(¬ wd ws i=⟨#[124]⟩∧l=[]∧k=i)∨(wd ws i=⟨#[124]⟩∧nameB (wd ws (i+1))=true∧∃ r,pAlts ws f (i+2)=some (r,k)∧l=wd ws (i+1)::r):=by
  unfold pAlts at h
  split at h
  · rename_i h0
    split at h
    · rename_i h1
      split at h
      · rename_i r k' hr
        cases h;exact .inr ⟨h0,h1,r,hr,rfl⟩
      · cases h
    · cases h
  · rename_i h0;cases h;exact .inl ⟨h0,rfl,rfl⟩
theorem pAlts_le {ws:List ByteArray}:∀ {f i k:Nat}{l:List ByteArray},i≤ws.length→pAlts ws f i=some (l,k)→i≤k∧k≤ws.length
  | 0,_,_,_,_,h=>by cases h
  | f+1,i,k,l,h0,h=>by
    rcases pAlts_some h with ⟨_,_,rfl⟩ | ⟨_,h1,r,h2,_⟩
    · exact⟨Nat.le_refl _,h0⟩
    · have h3:=nameB_lt h1
      have:=pAlts_le (by omega) h2
      exact⟨by omega,this.2⟩
abbrev typeS:ByteArray:=⟨#[116,121,112,101]⟩
abbrev inputS:ByteArray:=⟨#[105,110,112,117,116]⟩
abbrev enumS:ByteArray:=⟨#[101,110,117,109]⟩
abbrev unionS:ByteArray:=⟨#[117,110,105,111,110]⟩
def pBody (ws:List ByteArray) (i:Nat) (n:ByteArray):Option (Def×Nat) :=
  if wd ws i=typeS then (if wd ws (i+2)=⟨#[123]⟩ then (match pFlds ws ws.length (i+3) with | some (l,k)=>some (⟨n,1,l,[]⟩,k+1) | none=>none) else none)
  else if wd ws i=inputS then (if wd ws (i+2)=⟨#[123]⟩ then (match pFlds ws ws.length (i+3) with | some (l,k)=>some (⟨n,3,l,[]⟩,k+1) | none=>none) else none)
  else if wd ws i=enumS then (if wd ws (i+2)=⟨#[123]⟩ then (match pWds ws ws.length (i+3) with | some (l,k)=>some (⟨n,2,[],l⟩,k+1) | none=>none) else none)
  else if wd ws i=unionS then (if wd ws (i+2)=⟨#[61]⟩∧nameB (wd ws (i+3))=true then (match pAlts ws ws.length (i+4) with | some (l,k)=>some (⟨n,4,[],wd ws (i+3)::l⟩,k) | none=>none) else none)
  else none
theorem pBody_some {ws:List ByteArray}{i k:Nat}{n:ByteArray}{d:Def} (h:pBody ws i n=some (d,k)) :
    (wd ws i=typeS∧wd ws (i+2)=⟨#[123]⟩∧∃ l j,pFlds ws ws.length (i+3)=some (l,j)∧d=⟨n,1,l,[]⟩∧k=j+1) ∨
    (wd ws i=inputS∧wd ws (i+2)=⟨#[123]⟩∧∃ l j,pFlds ws ws.length (i+3)=some (l,j)∧d=⟨n,3,l,[]⟩∧k=j+1) ∨
    (wd ws i=enumS∧wd ws (i+2)=⟨#[123]⟩∧∃ l j,pWds ws ws.length (i+3)=some (l,j)∧d=⟨n,2,[],l⟩∧k=j+1) ∨
    (wd ws i=unionS∧wd ws (i+2)=⟨#[61]⟩∧nameB (wd ws (i+3))=true∧∃ l,pAlts ws ws.length (i+4)=some (l,k)∧d=⟨n,4,[],wd ws (i+3)::l⟩):=by
  unfold pBody at h
  split at h
  · rename_i h0
    split at h
    · rename_i h1
      split at h
      · rename_i l j hl;cases h;exact .inl ⟨h0,h1,l,j,hl,rfl,rfl⟩
      · cases h
    · cases h
  split at h
  · rename_i h0
    split at h
    · rename_i h1
      split at h
      · rename_i l j hl;cases h;exact .inr (.inl ⟨h0,h1,l,j,hl,rfl,rfl⟩)
      · cases h
    · cases h
  split at h
  · rename_i h0
    split at h
    · rename_i h1
      split at h
      · rename_i l j hl;cases h;exact .inr (.inr (.inl ⟨h0,h1,l,j,hl,rfl,rfl⟩))
      · cases h
    · cases h
  split at h
  · rename_i h0
    split at h
    · rename_i h1
      split at h
      · rename_i l j hl;cases h;exact .inr (.inr (.inr ⟨h0,h1.1,h1.2,l,hl,rfl⟩))
      · cases h
    · cases h
  · cases h
def pDef (ws:List ByteArray) (i:Nat):Option (Def×Nat):=if nameB (wd ws (i+1))=true then pBody ws i (wd ws (i+1)) else none
theorem pDef_some {ws:List ByteArray}{i k:Nat}{d:Def} (h:pDef ws i=some (d,k)):nameB (wd ws (i+1))=true∧pBody ws i (wd ws (i+1))=some (d,k):=by
  unfold pDef at h
  split at h
  · rename_i h0;exact⟨h0,h⟩
  · cases h
theorem pDef_le {ws:List ByteArray}{i k:Nat}{d:Def} (h:pDef ws i=some (d,k)):i<k∧k≤ws.length:=by
  obtain⟨_,h⟩:=pDef_some h
  rcases pBody_some h with ⟨_,_,l,j,h2,_,rfl⟩ | ⟨_,_,l,j,h2,_,rfl⟩ | ⟨_,_,l,j,h2,_,rfl⟩ | ⟨_,_,h1,l,h2,_⟩
  · have:=pFlds_le h2;omega
  · have:=pFlds_le h2;omega
  · have:=pWds_le h2;omega
  · have:=nameB_lt h1
    have:=pAlts_le (by omega) h2;omega
def pDefs (ws:List ByteArray):Nat→Nat→Option (List Def)
  | 0,_=>none
  | f+1,i=>if ws.length≤i then some [] else match pDef ws i with
    | some (d,j)=>match pDefs ws f j with
      | some l=>some (d::l)
      | none=>none
    | none=>none
theorem pDefs_some {ws:List ByteArray}{f i:Nat}{l:List Def} (h:pDefs ws (f+1) i=some l):(ws.length≤i∧l=[])∨(i<ws.length∧∃ d j r,pDef ws i=some (d,j)∧pDefs ws f j=some r∧l=d::r):=by
  unfold pDefs at h
  split at h
  · rename_i h0;cases h;exact .inl ⟨h0,rfl⟩
  · rename_i h0
    split at h
    · rename_i d j hd
      split at h
      · rename_i r hr
        cases h;exact .inr ⟨by omega,d,j,r,hd,hr,rfl⟩
      · cases h
    · cases h
theorem pArgs_len {ws:List ByteArray}:∀ {f i k:Nat}{l:List Arg},pArgs ws f i=some (l,k)→i+l.length≤k
  | 0,_,_,_,h=>by cases h
  | f+1,i,k,l,h=>by
    rcases pArgs_some h with ⟨_,rfl,rfl⟩ | ⟨_,a,j,r,h1,h2,rfl⟩
    · simp
    · have:=pArg_le h1
      have:=pArgs_len h2
      simp;omega
theorem pFlds_len {ws:List ByteArray}:∀ {f i k:Nat}{l:List Fld},pFlds ws f i=some (l,k)→i+l.length≤k
  | 0,_,_,_,h=>by cases h
  | f+1,i,k,l,h=>by
    rcases pFlds_some h with ⟨_,rfl,rfl⟩ | ⟨_,a,j,r,h1,h2,rfl⟩
    · simp
    · have:=pFld_le h1
      have:=pFlds_len h2
      simp;omega
theorem pWds_len {ws:List ByteArray}:∀ {f i k:Nat}{l:List ByteArray},pWds ws f i=some (l,k)→i+l.length≤k
  | 0,_,_,_,h=>by cases h
  | f+1,i,k,l,h=>by
    rcases pWds_some h with ⟨_,rfl,rfl⟩ | ⟨_,_,r,h2,rfl⟩
    · simp
    · have:=pWds_len h2
      simp;omega
theorem pAlts_len {ws:List ByteArray}:∀ {f i k:Nat}{l:List ByteArray},pAlts ws f i=some (l,k)→i+l.length≤k
  | 0,_,_,_,h=>by cases h
  | f+1,i,k,l,h=>by
    rcases pAlts_some h with ⟨_,rfl,rfl⟩ | ⟨_,_,r,h2,rfl⟩
    · simp
    · have:=pAlts_len h2
      simp;omega
theorem pDefs_len {ws:List ByteArray}:∀ {f i:Nat}{l:List Def},i≤ws.length→pDefs ws f i=some l→i+l.length≤ws.length
  | 0,_,_,_,h=>by cases h
  | f+1,i,l,h0,h=>by
    rcases pDefs_some h with ⟨_,rfl⟩ | ⟨_,d,j,r,h1,h2,rfl⟩
    · simp;omega
    · have:=pDef_le h1
      have:=pDefs_len (by omega) h2
      simp;omega
def litL:List UInt8:=[116,121,112,101,32,81,117,101,114,121,123,109,101,58,80,101,114,115,111,110,33,32,97,108,108,40,102,105,114,115,116,58,73,110,116,41,58,91,80,101,114,115,111,110,33,93,32,102,105,110,100,40,105,100,58,73,68,44,107,105,110,100,58,75,105,110,100,61,67,65,84,41,58,84,104,105,110,103,32,110,58,73,110,116,33,32,119,111,114,100,115,58,91,91,83,116,114,105,110,103,33,93,93,125,32,116,121,112,101,32,77,117,116,97,116,105,111,110,123,115,101,116,40,105,100,58,73,110,116,33,44,99,101,108,108,58,83,116,114,105,110,103,33,44,118,97,108,117,101,58,73,110,116,41,58,80,101,114,115,111,110,32,110,58,73,110,116,33,125,32,116,121,112,101,32,80,101,114,115,111,110,123,110,97,109,101,58,83,116,114,105,110,103,33,32,97,103,101,58,73,110,116,32,112,101,116,58,80,101,116,32,102,114,105,101,110,100,115,58,91,80,101,114,115,111,110,93,32,107,105,110,100,58,75,105,110,100,125,32,116,121,112,101,32,80,101,116,123,110,97,109,101,58,83,116,114,105,110,103,33,32,111,119,110,101,114,58,80,101,114,115,111,110,33,125,32,101,110,117,109,32,75,105,110,100,123,67,65,84,32,68,79,71,125,32,117,110,105,111,110,32,84,104,105,110,103,61,80,101,114,115,111,110,124,80,101,116,32,105,110,112,117,116,32,73,110,123,97,58,73,110,116,33,32,98,58,91,83,116,114,105,110,103,93,32,99,58,73,110,125]
def litW:List ByteArray:=[⟨#[116,121,112,101]⟩,⟨#[81,117,101,114,121]⟩,⟨#[123]⟩,⟨#[109,101]⟩,⟨#[58]⟩,⟨#[80,101,114,115,111,110]⟩,⟨#[33]⟩,⟨#[97,108,108]⟩,⟨#[40]⟩,⟨#[102,105,114,115,116]⟩,⟨#[58]⟩,⟨#[73,110,116]⟩,⟨#[41]⟩,⟨#[58]⟩,⟨#[91]⟩,⟨#[80,101,114,115,111,110]⟩,⟨#[33]⟩,⟨#[93]⟩,⟨#[102,105,110,100]⟩,⟨#[40]⟩,⟨#[105,100]⟩,⟨#[58]⟩,⟨#[73,68]⟩,⟨#[107,105,110,100]⟩,⟨#[58]⟩,⟨#[75,105,110,100]⟩,⟨#[61]⟩,⟨#[67,65,84]⟩,⟨#[41]⟩,⟨#[58]⟩,⟨#[84,104,105,110,103]⟩,⟨#[110]⟩,⟨#[58]⟩,⟨#[73,110,116]⟩,⟨#[33]⟩,⟨#[119,111,114,100,115]⟩,⟨#[58]⟩,⟨#[91]⟩,⟨#[91]⟩,⟨#[83,116,114,105,110,103]⟩,⟨#[33]⟩,⟨#[93]⟩,⟨#[93]⟩,⟨#[125]⟩,⟨#[116,121,112,101]⟩,⟨#[77,117,116,97,116,105,111,110]⟩,⟨#[123]⟩,⟨#[115,101,116]⟩,⟨#[40]⟩,⟨#[105,100]⟩,⟨#[58]⟩,⟨#[73,110,116]⟩,⟨#[33]⟩,⟨#[99,101,108,108]⟩,⟨#[58]⟩,⟨#[83,116,114,105,110,103]⟩,⟨#[33]⟩,⟨#[118,97,108,117,101]⟩,⟨#[58]⟩,⟨#[73,110,116]⟩,⟨#[41]⟩,⟨#[58]⟩,⟨#[80,101,114,115,111,110]⟩,⟨#[110]⟩,⟨#[58]⟩,⟨#[73,110,116]⟩,⟨#[33]⟩,⟨#[125]⟩,⟨#[116,121,112,101]⟩,⟨#[80,101,114,115,111,110]⟩,⟨#[123]⟩,⟨#[110,97,109,101]⟩,⟨#[58]⟩,⟨#[83,116,114,105,110,103]⟩,⟨#[33]⟩,⟨#[97,103,101]⟩,⟨#[58]⟩,⟨#[73,110,116]⟩,⟨#[112,101,116]⟩,⟨#[58]⟩,⟨#[80,101,116]⟩,⟨#[102,114,105,101,110,100,115]⟩,⟨#[58]⟩,⟨#[91]⟩,⟨#[80,101,114,115,111,110]⟩,⟨#[93]⟩,⟨#[107,105,110,100]⟩,⟨#[58]⟩,⟨#[75,105,110,100]⟩,⟨#[125]⟩,⟨#[116,121,112,101]⟩,⟨#[80,101,116]⟩,⟨#[123]⟩,⟨#[110,97,109,101]⟩,⟨#[58]⟩,⟨#[83,116,114,105,110,103]⟩,⟨#[33]⟩,⟨#[111,119,110,101,114]⟩,⟨#[58]⟩,⟨#[80,101,114,115,111,110]⟩,⟨#[33]⟩,⟨#[125]⟩,⟨#[101,110,117,109]⟩,⟨#[75,105,110,100]⟩,⟨#[123]⟩,⟨#[67,65,84]⟩,⟨#[68,79,71]⟩,⟨#[125]⟩,⟨#[117,110,105,111,110]⟩,⟨#[84,104,105,110,103]⟩,⟨#[61]⟩,⟨#[80,101,114,115,111,110]⟩,⟨#[124]⟩,⟨#[80,101,116]⟩,⟨#[105,110,112,117,116]⟩,⟨#[73,110]⟩,⟨#[123]⟩,⟨#[97]⟩,⟨#[58]⟩,⟨#[73,110,116]⟩,⟨#[33]⟩,⟨#[98]⟩,⟨#[58]⟩,⟨#[91]⟩,⟨#[83,116,114,105,110,103]⟩,⟨#[93]⟩,⟨#[99]⟩,⟨#[58]⟩,⟨#[73,110]⟩,⟨#[125]⟩]
def schemaL:List Def:=[
  ⟨⟨#[81,117,101,114,121]⟩,1,[⟨⟨#[109,101]⟩,[], .mk ⟨#[80,101,114,115,111,110]⟩ [] true⟩,⟨⟨#[97,108,108]⟩,[⟨⟨#[102,105,114,115,116]⟩, .mk ⟨#[73,110,116]⟩ [] false,false,noVal⟩], .mk ⟨#[]⟩ [.mk ⟨#[80,101,114,115,111,110]⟩ [] true] false⟩,⟨⟨#[102,105,110,100]⟩,[⟨⟨#[105,100]⟩, .mk ⟨#[73,68]⟩ [] false,false,noVal⟩,⟨⟨#[107,105,110,100]⟩, .mk ⟨#[75,105,110,100]⟩ [] false,true, .mk 7 0 ⟨#[67,65,84]⟩ [] []⟩], .mk ⟨#[84,104,105,110,103]⟩ [] false⟩,⟨⟨#[110]⟩,[], .mk ⟨#[73,110,116]⟩ [] true⟩,⟨⟨#[119,111,114,100,115]⟩,[], .mk ⟨#[]⟩ [.mk ⟨#[]⟩ [.mk ⟨#[83,116,114,105,110,103]⟩ [] true] false] false⟩],[]⟩,
  ⟨⟨#[77,117,116,97,116,105,111,110]⟩,1,[⟨⟨#[115,101,116]⟩,[⟨⟨#[105,100]⟩, .mk ⟨#[73,110,116]⟩ [] true,false,noVal⟩,⟨⟨#[99,101,108,108]⟩, .mk ⟨#[83,116,114,105,110,103]⟩ [] true,false,noVal⟩,⟨⟨#[118,97,108,117,101]⟩, .mk ⟨#[73,110,116]⟩ [] false,false,noVal⟩], .mk ⟨#[80,101,114,115,111,110]⟩ [] false⟩,⟨⟨#[110]⟩,[], .mk ⟨#[73,110,116]⟩ [] true⟩],[]⟩,
  ⟨⟨#[80,101,114,115,111,110]⟩,1,[⟨⟨#[110,97,109,101]⟩,[], .mk ⟨#[83,116,114,105,110,103]⟩ [] true⟩,⟨⟨#[97,103,101]⟩,[], .mk ⟨#[73,110,116]⟩ [] false⟩,⟨⟨#[112,101,116]⟩,[], .mk ⟨#[80,101,116]⟩ [] false⟩,⟨⟨#[102,114,105,101,110,100,115]⟩,[], .mk ⟨#[]⟩ [.mk ⟨#[80,101,114,115,111,110]⟩ [] false] false⟩,⟨⟨#[107,105,110,100]⟩,[], .mk ⟨#[75,105,110,100]⟩ [] false⟩],[]⟩,
  ⟨⟨#[80,101,116]⟩,1,[⟨⟨#[110,97,109,101]⟩,[], .mk ⟨#[83,116,114,105,110,103]⟩ [] true⟩,⟨⟨#[111,119,110,101,114]⟩,[], .mk ⟨#[80,101,114,115,111,110]⟩ [] true⟩],[]⟩,
  ⟨⟨#[75,105,110,100]⟩,2,[],[⟨#[67,65,84]⟩,⟨#[68,79,71]⟩]⟩,
  ⟨⟨#[84,104,105,110,103]⟩,4,[],[⟨#[80,101,114,115,111,110]⟩,⟨#[80,101,116]⟩]⟩,
  ⟨⟨#[73,110]⟩,3,[⟨⟨#[97]⟩,[], .mk ⟨#[73,110,116]⟩ [] true⟩,⟨⟨#[98]⟩,[], .mk ⟨#[]⟩ [.mk ⟨#[83,116,114,105,110,103]⟩ [] false] false⟩,⟨⟨#[99]⟩,[], .mk ⟨#[73,110]⟩ [] false⟩],[]⟩]
theorem lit_plain:litL.all plainU=true:=by decide +kernel
theorem lit_words:(wordsL litL).map bs=litW:=by decide +kernel
theorem lit_schema:pDefs litW litW.length 0=some schemaL:=by kernel_rfl
end Go.Proofs.YtbmoiajdknejnaaGreat
