/- Nodes: sizes, copies, comparisons. -/
import Derived.Test.YtghbkljdpikpdaaFl
set_option linter.unusedVariables false
set_option linter.unusedSimpArgs false
set_option maxRecDepth 100000
namespace Go.Proofs.Ytghbkljdpikpdaa
open Go.Sh
variable {gl : Nat → Option D}
/-- A node: number, type, cells. -/
structure Nod where
  id : Int
  ty : ByteArray
  val : Val
def Nod.cells (n : Nod) : List D := dI n.id :: dS n.ty :: n.val.cells
abbrev Nod.d (n : Nod) : D := .agg n.cells
def nodsCells (l : List Nod) : List D := l.flatMap Nod.cells
abbrev nodsD (l : List Nod) : D := .ps (nodsCells l) l.length
theorem ncells_len (n : Nod) : n.cells.length = 7 := by simp [Nod.cells, cells_len]
theorem nods_len (l : List Nod) : (nodsCells l).length = l.length * 7 := row_len ncells_len l
theorem nods_at (l : List Nod) {i : Nat} (hi : i < l.length) : ((nodsCells l).drop (i * 7)).take 7 = (l[i]).cells := row_at ncells_len l i hi
def NodOk (n : Nod) : Prop := n.ty.size ≤ 4611686018427387904 ∧ WF n.val

def szN (n : Nod) (left : Int) : Int := if left - n.ty.size < 0 then -1 else if szV n.val (left - n.ty.size) < 0 then -1 else szV n.val (left - n.ty.size)
def szNgo : List Nod → Int → Int
  | [], r => r
  | n :: l, r => if szN n r < 0 then -1 else szNgo l (szN n r)
def szNs (l : List Nod) (left : Int) : Int := if left - l.length < 0 then -1 else szNgo l (left - l.length)
theorem szN_le (n : Nod) (r : Int) (h : -1 ≤ r) : -1 ≤ szN n r ∧ szN n r ≤ r := by
  unfold szN
  split
  · omega
  · have := szV_le n.val (r - n.ty.size) (by omega)
    split <;> omega

set_option maxHeartbeats 1000000 in
theorem p_szNode (n : Nod) (hn : NodOk n) (left : Int) (h0 : 0 ≤ left) (hb : left ≤ 4611686018427387904) : PCall Try.prog gl 32 [n.d, dI left] (dI (szN n left)) := by
  refine PCall.by_ (md := []) Try.func32 rfl (by kernel_rfl) (n := 19) Try.ntmps32 (by simp) (by decide) rfl ?_
  have hs := hn.1
  have w0 : IntKind.i64.wrap (left - n.ty.size) = left - n.ty.size := wrap64 (by omega) (by omega)
  simp [Nod.cells, w0]
  refine BrT.dec (fun h => ?_) (fun h => ?_)
  · simp [h, szN] <;> omega
  simp [h, w0, Nod.cells, cells_len]
  refine CallT.p (p_szValue n.val hn.2 (left - n.ty.size) (by omega) (by omega)) rfl (by simp) ?_
  simp
  refine BrT.dec (fun h1 => ?_) (fun h1 => ?_)
  · simp [h1, szN] <;> omega
  · simp [h1, szN] <;> omega

set_option maxHeartbeats 1000000 in
theorem p_szNodeS (l : List Nod) (hl : l.length ≤ 4611686018427387904) (hok : ∀ n ∈ l, NodOk n) (left : Int) (h0 : 0 ≤ left) (hb : left ≤ 4611686018427387904) : PCall Try.prog gl 8 [nodsD l, dI left] (dI (szNs l left)) := by
  refine PCall.by_ (md := []) Try.func8 rfl (by kernel_rfl) (n := 27) Try.ntmps8 (by simp) (by decide) rfl ?_
  have w0 : IntKind.i64.wrap (left - l.length) = left - l.length := wrap64 (by omega) (by omega)
  simp [w0]
  refine BrT.dec (fun h => ?_) (fun h => ?_)
  · have : szNs l left = -1 := by rw [szNs, if_pos (by omega)]
    simp [w0, h, this]
  have hsz : szNs l left = szNgo l (left - l.length) := by rw [szNs, if_neg (by omega)]
  simp [w0, h]
  refine LoopT.round (fun E S => ∃ (i : Nat) (r : Int), i ≤ l.length ∧ 0 ≤ r ∧ r ≤ 4611686018427387904 ∧ E 0 = some (.d (nodsD l)) ∧ E 1 = some (.d (dI r)) ∧ E 5 = some (.d (dI i)) ∧ szNgo (l.drop i) r = szNs l left) (upTo 5 l.length) ⟨0, left - l.length, by simp [hsz]; omega⟩ ?_
  rintro E S hk ⟨i, r, hi, hr0, hr1, h0, h1, h5, hp⟩
  have hn : S.n = 27 := by simpa using hk.n
  have hg : S.gl = gl := by simpa using hk.gl
  have w : IntKind.i64.wrap ((i : Int) + 1) = (i : Int) + 1 := wrap64 (by omega) (by omega)
  simp [h0, h1, h5, hn]
  refine BrT.dec (fun h => ?_) (fun h => ?_)
  · have hi2 : i < l.length := by omega
    have hlen := nods_len l
    have hfit : i * 7 + 7 ≤ l.length * 7 := by omega
    have hd : szNgo (l.drop i) r = if szN l[i] r < 0 then -1 else szNgo (l.drop (i + 1)) (szN l[i] r) := by
      rw [List.drop_eq_getElem_cons hi2]; simp only [szNgo]
    have hle := szN_le l[i] r (by omega)
    simp [h0, h1, h5, hn, hi2, hlen, hfit, nods_at]
    refine CallT.p (p_szNode l[i] (hok _ (List.getElem_mem hi2)) r hr0 hr1) (by first | rfl | simp [hg]) rfl ?_
    simp [h0, h1, h5, hn]
    refine BrT.dec (fun he => ?_) (fun he => ?_)
    · rw [hd, if_pos he] at hp
      simp [h0, h1, h5, hn, he, hp]
    · rw [hd, if_neg he] at hp
      simp [h0, h1, h5, hn, w, he]
      exact ⟨⟨i + 1, by omega, szN l[i] r, by omega, by omega, rfl, by omega, hp⟩, upTo_lt h5 (by simp) hi2⟩
  · rw [List.drop_eq_nil_of_le (by omega)] at hp
    simp only [szNgo] at hp
    simp [h0, h1, h5, hn, ← hp]
end Go.Proofs.Ytghbkljdpikpdaa
