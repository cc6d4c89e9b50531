/- Is a store ok: the model's way. -/
import Derived.Test.YtghbkljdpikpdaaFn
set_option linter.unusedVariables false
set_option linter.unusedSimpArgs false
set_option maxRecDepth 100000
namespace Go.Proofs.Ytghbkljdpikpdaa
open Go.Sh
variable {gl : Nat → Option D}
def Val.kind : Val → Int
  | .mk k _ _ _ _ => k
@[simp] theorem cells_kind (v : Val) : v.cells[0]? = some (dI v.kind) := by cases v; rfl
def nd (l : List Nod) (i : Nat) : Nod := l.getD i ⟨0, ⟨#[]⟩, default⟩
theorem nd_at {l : List Nod} {i : Nat} (h : i < l.length) : l[i] = nd l i := by
  unfold nd
  rw [List.getD_eq_getElem?_getD, List.getElem?_eq_getElem h, Option.getD_some]
/-- A number between two. -/
def inB (a b c : Int) : Bool := decide (b ≤ a) && decide (a ≤ c)
theorem p_l1In2 (a b c : Int) : PCall Try.prog gl 64 [dI a, dI b, dI c] (dB (inB a b c)) := p_l1In a b c
/-- A node has a form. -/
def nodB (n : Nod) : Bool := inB n.id 0 2147483647 && nameB n.ty && decide (n.val.kind = 5) && okB n.val 4 false
def nodP (l : List Nod) (i : Nat) : Bool := nodB (nd l i) && !(!decide (i = 0) && decide ((nd l i).id ≤ (nd l (i - 1)).id))
abbrev query : ByteArray := ⟨#[81, 117, 101, 114, 121]⟩
def storeB (l : List Nod) : Bool := allTo (nodP l) l.length && inB l.length 1 12 && decide ((nd l 0).id = 0) && decide ((nd l 0).ty = query)
theorem nods_id (l : List Nod) {i : Nat} (hi : i < l.length) : (nodsCells l)[i * 7]? = some (dI (nd l i).id) := by
  have h := nods_at l hi
  have h2 : (((nodsCells l).drop (i * 7)).take 7)[0]? = some (dI (nd l i).id) := by rw [h, nd_at hi]; rfl
  rw [List.getElem?_take, if_pos (by omega), List.getElem?_drop, Nat.add_zero] at h2
  exact h2
theorem nods_ty (l : List Nod) {i : Nat} (hi : i < l.length) : (nodsCells l)[i * 7 + 1]? = some (dS (nd l i).ty) := by
  have h := nods_at l hi
  have h2 : (((nodsCells l).drop (i * 7)).take 7)[1]? = some (dS (nd l i).ty) := by rw [h, nd_at hi]; rfl
  rw [List.getElem?_take, if_pos (by omega), List.getElem?_drop] at h2
  exact h2

set_option maxHeartbeats 4000000 in
theorem p_specStoreOk (l : List Nod) (hl : l.length ≤ 4611686018427387904) (hok : ∀ n ∈ l, NodOk n) : PCall Try.prog gl 26 [nodsD l] (dB (storeB l)) := by
  refine PCall.by_ (md := []) Try.func26 rfl (by kernel_rfl) (n := 69) Try.ntmps26 (by simp) (by decide) rfl ?_
  simp
  refine LoopT.round (fun E S => ∃ i : Nat, i ≤ l.length ∧ E 0 = some (.d (nodsD l)) ∧ E 3 = some (.d (dI i)) ∧ (∀ j, j < i → nodP l j = true)) (upTo 3 l.length) ⟨0, by simp⟩ ?_
  rintro E S hk ⟨i, hi, h0, h3, hp⟩
  have hn : S.n = 69 := by simpa using hk.n
  have hg : S.gl = gl := by simpa using hk.gl
  have w : IntKind.i64.wrap ((i : Int) + 1) = (i : Int) + 1 := wrap64 (by omega) (by omega)
  simp [h0, h3, hn]
  refine BrT.dec (fun h => ?_) (fun h => ?_)
  · have hi2 : i < l.length := by omega
    have hlen := nods_len l
    have hfit : i * 7 + 7 ≤ l.length * 7 := by omega
    have hN := hok _ (List.getElem_mem hi2)
    rw [nd_at hi2] at hN
    have bad : nodP l i = false → storeB l = false := fun h1 => by rw [storeB, allTo_false hi2 h1]; rfl
    simp [h0, h3, hn, hi2, hlen, hfit, nods_at, nd_at, Nod.cells, cells_len]
    refine ⟨DrawT.mk (by kernel_rfl), ?_⟩
    refine CallT.p (p_l1In2 _ _ _) (by first | rfl | simp [hg]) rfl ?_
    simp [h0, h3, hn]
    refine BrT.mk (fun c1 => ?_) (fun c1 => ?_)
    case refine_2 =>
      have hq := bad (by simp [nodP, nodB, c1])
      simp [h0, h3, hn, c1, hq]
    simp [h0, h3, hn, c1, Nod.cells]
    refine CallT.p (p_l1Name _ hN.1) (by first | rfl | simp [hg]) rfl ?_
    simp [h0, h3, hn, c1]
    refine BrT.mk (fun c2 => ?_) (fun c2 => ?_)
    case refine_2 =>
      have hq := bad (by simp [nodP, nodB, c1, c2])
      simp [h0, h3, hn, c1, c2, hq]
    simp [h0, h3, hn, c1, c2, Nod.cells]
    refine BrT.dec (fun c3 => ?_) (fun c3 => ?_)
    case refine_2 =>
      have hq := bad (by simp [nodP, nodB, c1, c2, c3])
      simp [h0, h3, hn, c1, c2, c3, hq]
    simp [h0, h3, hn, c1, c2, c3, Nod.cells, cells_len]
    refine CallT.p (p_l1Ok _ hN.2 4 false (by omega) (by omega)) (by first | rfl | simp [hg]) (by simp) ?_
    simp [h0, h3, hn, c1, c2, c3]
    refine BrT.mk (fun c4 => ?_) (fun c4 => ?_)
    case refine_2 =>
      have hq := bad (by simp [nodP, nodB, c1, c2, c3, c4])
      simp [h0, h3, hn, c1, c2, c3, c4, hq]
    simp [h0, h3, hn, c1, c2, c3, c4]
    have hnb : nodB (nd l i) = true := by simp [nodB, c1, c2, c3, c4]
    refine BrT.dec (fun c5 => ?_) (fun c5 => ?_)
    case refine_2 =>
      have hi0 : i = 0 := by omega
      have hq : nodP l i = true := by simp [nodP, hnb]; omega
      simp [h0, h3, hn, c1, c2, c3, c4, c5, w]
      exact ⟨⟨i + 1, by omega, rfl, next_all hp hq⟩, upTo_lt h3 (by simp) hi2⟩
    have w1 : IntKind.i64.wrap ((i : Int) - 1) = ((i - 1 : Nat) : Int) := by rw [wrap64 (by omega) (by omega)]; omega
    have hi1 : i - 1 < l.length := by omega
    have hz : ¬ i = 0 := by omega
    have hid := nods_id l hi1
    simp [h0, h3, hn, c1, c2, c3, c4, c5, w1, hi1, hid, Nod.cells]
    refine BrT.dec (fun c6 => ?_) (fun c6 => ?_)
    · have hq := bad (by simp [nodP, hnb, hz, c6])
      simp [h0, h3, hn, c1, c2, c3, c4, c5, c6, hq]
    · have hq : nodP l i = true := by simp [nodP, hnb, hz]; omega
      simp [h0, h3, hn, c1, c2, c3, c4, c5, c6, w]
      exact ⟨⟨i + 1, by omega, rfl, next_all hp hq⟩, upTo_lt h3 (by simp) hi2⟩
  · simp [h0, h3, hn]
    have hi3 : i = l.length := by omega
    have hall := allTo_true (p := nodP l) (n := l.length) (fun j hj => hp j (by omega))
    refine CallT.p (p_l1In2 _ _ _) (by first | rfl | simp [hg]) rfl ?_
    simp [h0, h3, hn]
    refine BrT.mk (fun c1 => ?_) (fun c1 => ?_)
    case refine_2 => simp [h0, h3, hn, c1, storeB]
    have hl0 : 0 < l.length := by simp [inB] at c1; omega
    have hid := nods_id l hl0
    have hty := nods_ty l hl0
    simp only [Nat.zero_mul, Nat.zero_add] at hid hty
    simp [h0, h3, hn, c1, hl0, hid, hty]
    refine BrT.dec (fun c2 => ?_) (fun c2 => ?_)
    case refine_2 => simp [h0, h3, hn, c1, c2, storeB]
    simp [h0, h3, hn, c1, c2, hl0, hid, hty]
    simp [storeB, hall, c1, c2, query]

end Go.Proofs.Ytghbkljdpikpdaa
