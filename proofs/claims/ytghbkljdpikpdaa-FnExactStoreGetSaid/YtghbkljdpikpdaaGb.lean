/- Copies of nodes in memory of their own. -/
import Derived.Test.YtghbkljdpikpdaaGa
import Derived.Test.YtghbkljdpikpdaaFn
set_option linter.unusedVariables false
set_option linter.unusedSimpArgs false
set_option maxRecDepth 100000
namespace Go.Proofs.Ytghbkljdpikpdaa
open Go.Sh
variable {gl : Nat → Option D}
def Nod.sk (e : Bool) (n : Nod) : List Sk := .d (.int .i64 n.id) :: .d (.string n.ty) :: n.val.sk e
def nodsSk (e : Bool) (l : List Nod) : List Sk := l.flatMap (Nod.sk e)
@[simp] theorem nsk_len (e : Bool) (n : Nod) : (n.sk e).length = 7 := by simp [Nod.sk]
theorem nodsSk_len (e : Bool) (l : List Nod) : (nodsSk e l).length = l.length * 7 := row_len (nsk_len e) l
theorem nodsSk_app (e : Bool) (a b : List Nod) : nodsSk e (a ++ b) = nodsSk e a ++ nodsSk e b := by simp [nodsSk]
theorem nsk_data (e : Bool) (n : Nod) : dataL (n.sk e) = n.cells := by simp [Nod.sk, dataL, Sk.data, Nod.cells, sk_data]
theorem nodsSk_data (e : Bool) (l : List Nod) : dataL (nodsSk e l) = nodsCells l := by
  induction l with
  | nil => rfl
  | cons n r ih =>
    have : nodsSk e (n :: r) = n.sk e ++ nodsSk e r := by simp [nodsSk]
    rw [this, dataL_app, nsk_data, ih]; simp [nodsCells]
@[simp] theorem cntL_d (v : Value) (cs : List Sk) : cntL (.d v :: cs) = cntL cs := by simp [cntL, Sk.cnt]
abbrev nodF (gl : Nat → Option D) (f : Nat) (e : Bool) (ds : List D) (n : Nod) : Prop := FCall Try.prog gl f ds (.ag (svs (canL 0 (n.sk e)))) (cntL (n.sk e)) (newL (n.sk e))
set_option maxHeartbeats 1000000 in
theorem g_toNode (n : Nod) (hn : Small n.val) : nodF gl 34 true [n.d] n := by
  refine FCall.by_ (md := []) Try.func34 rfl (by kernel_rfl) (n := 15) Try.ntmps34 (by simp) (by decide) rfl ?_
  simp [Nod.cells, cells_len]
  repeat refine ⟨DrawT.mk (by kernel_rfl), ?_⟩
  refine CallT.f (n := 40) (g_toValue n.val hn) (by first | rfl | (simp; done) | (simp; done)) (by first | rfl | kernel_rfl) (by first | rfl | (simp; done) | (simp; done)) ?_
  simp [ Nod.cells, cells_len]
  refine fin_ag (lo := 16) (cs := [.d (.int .i64 n.id), .d (.string n.ty)] ++ canL 16 (n.val.sk true)) (.cons_d (.cons_d (At.new ?_))) ?_ ?_
  · intro b h1 h2
    ((try simp); (repeat first | rw [if_neg (by omega)] | rw [if_pos (by omega)]); (try (intro h; exfalso; omega)))
  · simp [shs_app, canL_shs, shs, Ld.sh, Nod.sk]
  · simp [canL]
set_option maxHeartbeats 1000000 in
theorem g_toNodeS (l : List Nod) (hl : l.length ≤ 1048576) (hs : ∀ n ∈ l, Small n.val) : rowF1 gl 10 [nodsD l] (skR true l.length (nodsSk true l)) := by
  refine FCall.by_ (md := []) Try.func10 rfl (by kernel_rfl) (n := 23) Try.ntmps10 (by simp) (by decide) rfl ?_
  simp
  refine ⟨by omega, ?_⟩
  refine LoopT.round (fun E S => ∃ (i : Nat) (done : List Ld), (i ≤ l.length) ∧ E 0 = some (.d (nodsD l)) ∧ E 3 = some (.os 3 0 l.length) ∧ E 4 = some (.d (dI i)) ∧ S.B 3 = some (rowC (svs done) zN (l.length - i)) ∧ (shs done = nodsSk true (l.take i)) ∧ (At S 4 S.nx done) ∧ (4 ≤ S.nx)) (upTo 4 l.length) ⟨0, [], by simp; exact ⟨by simp [rowC, madeS_zN], rfl, .nil⟩⟩ ?_
  rintro E S hk ⟨i, done, hi, h0, h3, h4, hB3, hd, ha, hx⟩
  have hn : S.n = 23 := by first | (simpa using hk.n) | (have hh := hk.n; simp at hh; exact hh)
  have hg : S.gl = gl := by first | (simpa using hk.gl) | (have hh := hk.gl; simp at hh; exact hh)
  have hmd : S.md = [] := by first | (simpa using hk.md) | (have hh := hk.md; simp at hh; exact hh)
  simp [h0, h3, h4, hB3, hn, hg, hmd]
  have w := wrap64 (n := (i : Int) + 1) (by omega) (by omega)
  have hA : (svs done).length = i * 7 := by rw [svs_len, ← shs_len, hd, nodsSk_len, List.length_take]; congr 1; omega
  have hf := rowC_len (k := 7) (z := zN) rfl hA hi
  refine BrT.dec (fun c => ?_) (fun c => ?_)
  · have hi2 : i < l.length := by omega
    have hlen := nods_len l
    have hfit : i * 7 + 7 ≤ l.length * 7 := by omega
    have hnext := fun X => rowC_next (k := 7) (z := zN) (X := X) rfl hA hi2
    simp [h0, h3, h4, hB3, hn, hg, hmd, c, hi2, w, hf, hlen, hfit, nods_at]
    repeat refine ⟨DrawT.mk (by kernel_rfl), ?_⟩
    refine CallT.f (n := 40) (g_toNode l[i] (hs _ (List.getElem_mem hi2))) (by first | rfl | (simp; done) | (simp [h0, h3, h4, hB3, hn, hg, hmd, c, hi2, w, hf, hlen, hfit, nods_at]; done)) (by first | rfl | kernel_rfl) (by first | rfl | (simp; done) | (simp [h0, h3, h4, hB3, hn, hg, hmd, c, hi2, w, hf, hlen, hfit, nods_at]; done)) ?_
    simp [h0, h3, h4, hB3, hn, hg, hmd, c, hi2, w, hf, hlen, hfit, nods_at]
    refine ⟨⟨i + 1, hi2, by omega, done ++ canL (S.nx + 4 + 9) (Nod.sk true l[i]), ?_, ?_, ?_, by omega⟩, upTo_lt h4 (by simp) hi2⟩
    · rw [svs_app, ← hnext]; simp
    · rw [shs_app, hd, canL_shs, List.take_succ_eq_append_getElem hi2, nodsSk_app]; simp [nodsSk]
    · refine At.app (mid := S.nx + 4 + 9) ?_ ?_ (by omega) (by omega)
      · exact (ha.keep fun b h1 h2 => by ((try simp); (repeat first | rw [if_neg (by omega)] | rw [if_pos (by omega)]); (try (intro h; exfalso; omega)))).le (by omega) (by omega)
      · exact (At.new fun b h1 h2 => by ((try simp); (repeat first | rw [if_neg (by omega)] | rw [if_pos (by omega)]); (try (intro h; exfalso; omega)))).le (by omega) (by omega)
  · have hi3 : i = l.length := by omega
    subst hi3
    rw [List.take_length] at hd
    simp [h0, h3, h4, hB3, hn, hg, hmd, c]
    rw [rowC_all] at hB3
    have hat : At ((S.adv 4).adv 2) 3 S.nx [.row none 3 l.length done] :=
      .row hB3 (by omega) (by omega) ((ha.mono (S' := (S.adv 4).adv 2) rfl).le (by omega) (by omega)) (fun p hp => by have := ha.rng p hp; omega)
    exact fin_1 (sk := .row none l.length (nodsSk true l)) hat (by simp only [Ld.sh, hd]) rfl
end Go.Proofs.Ytghbkljdpikpdaa
