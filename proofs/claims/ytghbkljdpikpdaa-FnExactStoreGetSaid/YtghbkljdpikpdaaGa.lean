/- Copies of texts and values in memory of their own (laws.toX). -/
import Derived.Test.YtghbkljdpikpdaaFl
import Derived.Test.YtghbkljdpikpdaaLd
set_option linter.unusedVariables false
set_option linter.unusedSimpArgs false
set_option maxRecDepth 100000
namespace Go.Proofs.Ytghbkljdpikpdaa
open Go.Sh
variable {gl : Nat → Option D}
/-- A row of such; e: also if it is empty. -/
def skR (e : Bool) (n : Nat) (cs : List Sk) : Sk := if n = 0 ∧ e = false then .nil else .row none n cs
@[simp] theorem skR_true (n : Nat) (cs : List Sk) : skR true n cs = .row none n cs := by simp [skR]
theorem skR_pos {e : Bool} {n : Nat} {cs : List Sk} (h : n ≠ 0) : skR e n cs = .row none n cs := by simp [skR, h]
@[simp] theorem skR_zero (cs : List Sk) : skR false 0 cs = .nil := by simp [skR]
def skS (e : Bool) (l : List ByteArray) : Sk := skR e l.length (l.map fun s => .d (.string s))
@[simp] theorem can_row (z : Option Nat) (n k : Nat) (cs : List Sk) : ((Sk.row z n cs).can k).sv = rowV z k n := by simp [Sk.can]
theorem skR_cases (e : Bool) (n : Nat) (cs : List Sk) : skR e n cs = .nil ∨ skR e n cs = .row none n cs := by unfold skR; split <;> simp
@[simp] theorem skR_one (e : Bool) (n k : Nat) (cs : List Sk) : ((skR e n cs).can k).sv.one = true := by rcases skR_cases e n cs with h | h <;> rw [h] <;> rfl
@[simp] theorem skR_cells (e : Bool) (n k : Nat) (cs : List Sk) : ((skR e n cs).can k).sv.cells = [((skR e n cs).can k).sv] := by rcases skR_cases e n cs with h | h <;> rw [h] <;> rfl
@[simp] theorem skS_one (e : Bool) (k : Nat) (l : List ByteArray) : ((skS e l).can k).sv.one = true := skR_one _ _ _ _
@[simp] theorem skS_cells (e : Bool) (k : Nat) (l : List ByteArray) : ((skS e l).can k).sv.cells = [((skS e l).can k).sv] := skR_cells _ _ _ _
mutual
def Val.sk (e : Bool) : Val → List Sk
  | .mk k n t l ns => [.d (.int .i64 k), .d (.int .i64 n), .d (.string t), skR e l.length (valsSk e l), skS e ns]
def valsSk (e : Bool) : List Val → List Sk
  | [] => []
  | v :: r => v.sk e ++ valsSk e r
end
@[simp] theorem sk_len (e : Bool) (v : Val) : (v.sk e).length = 5 := by cases v; rfl
theorem valsSk_app (e : Bool) : ∀ a b : List Val, valsSk e (a ++ b) = valsSk e a ++ valsSk e b
  | [], b => rfl
  | x :: r, b => by simp [valsSk, valsSk_app e r b]
theorem valsSk_len (e : Bool) : ∀ l : List Val, (valsSk e l).length = l.length * 5
  | [] => rfl
  | x :: r => by simp [valsSk, valsSk_len e r]; omega
theorem skR_data {e : Bool} {n : Nat} {cs : List Sk} (h : n = 0 → cs = []) : (skR e n cs).data = .ps (dataL cs) n := by
  unfold skR
  split
  · rename_i h1; obtain ⟨rfl, _⟩ := h1; rw [h rfl]; rfl
  · rfl
theorem skS_data (e : Bool) (l : List ByteArray) : (skS e l).data = namesD l := by
  unfold skS
  rw [skR_data (fun h => by rw [List.eq_nil_of_length_eq_zero h]; rfl)]
  congr 1
  induction l with
  | nil => rfl
  | cons s r ih => simp [dataL, Sk.data, ih]
mutual
theorem sk_data (e : Bool) : ∀ v : Val, dataL (v.sk e) = v.cells
  | .mk k n t l ns => by
    have : (skR e l.length (valsSk e l)).data = valsD l := by
      rw [skR_data (fun h => by rw [List.eq_nil_of_length_eq_zero h]; rfl), valsSk_data e l]
    simp [Val.sk, dataL, Sk.data, Val.cells, skS_data, this]
theorem valsSk_data (e : Bool) : ∀ l : List Val, dataL (valsSk e l) = valsCells l
  | [] => rfl
  | v :: r => by simp [valsSk, dataL_app, valsCells, sk_data e v, valsSk_data e r]
end
/-- Texts, as they lie. -/
abbrev ldT (l : List ByteArray) : List Ld := l.map fun s => .d (.string s)
@[simp] theorem ldT_vars (l : List ByteArray) : varsL (ldT l) = [] := by
  induction l with
  | nil => rfl
  | cons s r ih => simpa [varsL, Ld.vars] using ih
theorem ldT_sh (l : List ByteArray) : shs (ldT l) = l.map fun s => .d (.string s) := by
  induction l with
  | nil => rfl
  | cons s r ih => simpa [shs, Ld.sh] using ih
theorem ldT_at {S : St} {lo hi : Nat} (l : List ByteArray) : At S lo hi (ldT l) := ⟨by rw [ldT_vars]; simp, by rw [ldT_vars]; simp, by rw [ldT_vars]; simp⟩
theorem ldT_svs (l : List ByteArray) : svs (ldT l) = (l.map dS).map .d := by
  rw [svs, ldT, List.map_map, List.map_map]; rfl
theorem ldT_next (l : List ByteArray) {i : Nat} (h : i < l.length) : svs (ldT (l.take (i + 1))) = svs (ldT (l.take i)) ++ [.d (dS l[i])] := by
  rw [List.take_succ_eq_append_getElem h, ldT, List.map_append, svs_app]
  rfl
@[simp] theorem take_svs (cs : List Ld) (h : cs.length = 5) : (svs cs).take 5 = svs cs := List.take_of_length_le (by simp [h])
/-- A row that is being filled: A is there, m elements z are still to come. -/
def rowC (A z : List SV) (m : Nat) : List SV := A ++ (List.replicate m z).flatten
theorem rowC_len {z : List SV} {k : Nat} (hz : z.length = k) {A : List SV} {i n : Nat} (hA : A.length = i * k) (hi : i ≤ n) : (rowC A z (n - i)).length = n * k := by
  rw [rowC, List.length_append, hA, zeros_len hz, ← Nat.add_mul]; congr 1; omega
theorem rowC_next {z : List SV} {k : Nat} (hz : z.length = k) {A X : List SV} {i n : Nat} (hA : A.length = i * k) (hi : i < n) : (rowC A z (n - i)).take (i * k) ++ X ++ (rowC A z (n - i)).drop (i * k + k) = rowC (A ++ X) z (n - (i + 1)) := by
  unfold rowC
  rw [List.take_left' hA, List.append_assoc, List.append_assoc]
  congr 2
  have e3 : n - i = (n - (i + 1)) + 1 := by omega
  rw [e3, List.replicate_succ, List.flatten_cons, ← List.append_assoc]
  exact List.drop_left' (by rw [List.length_append, hA, hz])
theorem rowC_all (A z : List SV) (n : Nat) : rowC A z (n - n) = A := by simp [rowC]
theorem rowC_none (z : List SV) (n : Nat) : rowC [] z n = (List.replicate n z).flatten := by simp [rowC]
def txS (l : List ByteArray) : List SV := svs (ldT l)
@[simp] theorem txS_len (l : List ByteArray) : (txS l).length = l.length := by simp [txS]
@[simp] theorem txS_nil : txS [] = [] := (rfl)
theorem txS_next (l : List ByteArray) {i : Nat} (h : i < l.length) : txS (l.take (i + 1)) = txS (l.take i) ++ [.d (dS l[i])] := ldT_next l h
set_option maxHeartbeats 1000000 in
theorem g_toStringS (l : List ByteArray) (hl : l.length ≤ 1048576) : FCall Try.prog gl 51 [namesD l] ((skS true l).can 0).sv (cntL [skS true l]) (newL [skS true l]) := by
  refine FCall.by_ (md := []) Try.func51 rfl (by kernel_rfl) (n := 22) Try.ntmps51 (by simp) (by decide) rfl ?_
  simp
  refine ⟨by omega, ?_⟩
  refine LoopT.round (fun E S => ∃ (i : Nat), (i ≤ l.length) ∧ E 0 = some (.d (namesD l)) ∧ E 3 = some (.os 3 0 l.length) ∧ E 4 = some (.d (dI i)) ∧ S.B 3 = some (rowC (txS (l.take i)) [.d (dS ⟨#[]⟩)] (l.length - i)) ∧ (4 ≤ S.nx)) (upTo 4 l.length) ⟨0, by simp [rowC_none]⟩ ?_
  rintro E S hk ⟨i, hi, h0, h3, h4, hB3, hx⟩
  have hn : S.n = 22 := by first | (simpa using hk.n) | (have hh := hk.n; simp at hh; exact hh)
  have hg : S.gl = gl := by first | (simpa using hk.gl) | (have hh := hk.gl; simp at hh; exact hh)
  have hmd : S.md = [] := by first | (simpa using hk.md) | (have hh := hk.md; simp at hh; exact hh)
  simp [h0, h3, h4, hB3, hn, hg, hmd]
  have w := wrap64 (n := (i : Int) + 1) (by omega) (by omega)
  have hA : (txS (l.take i)).length = i * 1 := by simp; omega
  have hf := rowC_len (k := 1) (z := [SV.d (dS ⟨#[]⟩)]) rfl hA hi
  rw [Nat.mul_one] at hf
  refine BrT.dec (fun c => ?_) (fun c => ?_)
  · have hi2 : i < l.length := by omega
    have hnext := rowC_next (k := 1) (z := [SV.d (dS ⟨#[]⟩)]) (X := [.d (dS l[i])]) rfl hA hi2
    rw [Nat.mul_one, ← txS_next l hi2] at hnext
    simp [h0, h3, h4, hB3, hn, hg, hmd, c, hi2, w, hf]
    refine ⟨by omega, ⟨i + 1, by omega, by omega, ?_⟩, upTo_lt h4 (by simp) hi2⟩
    rw [← hnext]
    simp
  · have hi3 : i = l.length := by omega
    subst hi3
    simp [h0, h3, h4, hB3, hn, hg, hmd, c]
    have hat : At ((S.adv 4).adv 2) 3 S.nx [.row none 3 l.length (ldT l)] :=
      .row (by simpa [txS, rowC] using hB3) (by omega) (by omega) (ldT_at l) (by rw [ldT_vars]; simp)
    have hsh : (Ld.row none 3 l.length (ldT l)).sh = skS true l := by
      simp only [Ld.sh, skS, skR_true, ldT_sh]
    have := fend_1 hat
    rw [hsh] at this
    exact ⟨_, this⟩
@[simp] theorem canL_svs0 (m : Nat) (cs : List Sk) : (svs (canL 0 cs)).map (SV.shift m) = svs (canL m cs) := by rw [canL_svs, Nat.add_zero]
@[simp] theorem can_sv0 (m : Nat) (x : Sk) : (x.can 0).sv.shift m = (x.can m).sv := by rw [can_sv, Nat.add_zero]
theorem At.mono {S S' : St} {lo hi : Nat} {a : List Ld} (ha : At S lo hi a) (h : S'.B = S.B) : At S' lo hi a := ha.keep fun b _ _ => by rw [h]
theorem At.skip {S S' : St} {lo hi q : Nat} {cs : List SV} {a : List Ld} (ha : At S lo hi a) (hq : q < lo ∨ hi ≤ q) (h : S'.B = upd S.B q cs) : At S' lo hi a := ha.keep fun b h1 h2 => by rw [h, upd_ne _ _ (by omega)]
abbrev valF (gl : Nat → Option D) (f : Nat) (e : Bool) (ds : List D) (v : Val) : Prop := FCall Try.prog gl f ds (.ag (svs (canL 0 (v.sk e)))) (cntL (v.sk e)) (newL (v.sk e))
abbrev rowF1 (gl : Nat → Option D) (f : Nat) (ds : List D) (x : Sk) : Prop := FCall Try.prog gl f ds (x.can 0).sv (cntL [x]) (newL [x])
set_option maxHeartbeats 1000000 in
theorem g_toValueS_of (l : List Val) (hl : l.length ≤ 1048576) (ih : ∀ i (h : i < l.length), valF gl 19 true [l[i].d] l[i]) : rowF1 gl 50 [valsD l] (skR true l.length (valsSk true l)) := by
  refine FCall.by_ (md := []) Try.func50 rfl (by kernel_rfl) (n := 23) Try.ntmps50 (by simp) (by decide) rfl ?_
  simp
  refine ⟨by omega, ?_⟩
  refine LoopT.round (fun E S => ∃ (i : Nat) (done : List Ld), (i ≤ l.length) ∧ E 0 = some (.d (valsD l)) ∧ E 3 = some (.os 3 0 l.length) ∧ E 4 = some (.d (dI i)) ∧ S.B 3 = some (rowC (svs done) zV (l.length - i)) ∧ (shs done = valsSk true (l.take i)) ∧ (At S 4 S.nx done) ∧ (4 ≤ S.nx)) (upTo 4 l.length) ⟨0, [], by simp; exact ⟨by simp [rowC, madeS_zV], rfl, .nil⟩⟩ ?_
  rintro E S hk ⟨i, done, hi, h0, h3, h4, hB3, hd, ha, hx⟩
  have hn : S.n = 23 := by first | (simpa using hk.n) | (have hh := hk.n; simp at hh; exact hh)
  have hg : S.gl = gl := by first | (simpa using hk.gl) | (have hh := hk.gl; simp at hh; exact hh)
  have hmd : S.md = [] := by first | (simpa using hk.md) | (have hh := hk.md; simp at hh; exact hh)
  simp [h0, h3, h4, hB3, hn, hg, hmd]
  have w := wrap64 (n := (i : Int) + 1) (by omega) (by omega)
  have hA : (svs done).length = i * 5 := by rw [svs_len, ← shs_len, hd, valsSk_len, List.length_take]; congr 1; omega
  have hf := rowC_len (k := 5) (z := zV) rfl hA hi
  refine BrT.dec (fun c => ?_) (fun c => ?_)
  · have hi2 : i < l.length := by omega
    have hlen := valsCells_len l
    have hfit : i * 5 + 5 ≤ l.length * 5 := by omega
    have hnext := fun X => rowC_next (k := 5) (z := zV) (X := X) rfl hA hi2
    simp [h0, h3, h4, hB3, hn, hg, hmd, c, hi2, w, hf, hlen, hfit, valsCells_at]
    repeat refine ⟨DrawT.mk (by kernel_rfl), ?_⟩
    refine CallT.f (n := 40) (ih i hi2) (by first | rfl | (simp; done) | (simp [h0, h3, h4, hB3, hn, hg, hmd, c, hi2, w, hf, hlen, hfit, valsCells_at]; done)) (by first | rfl | kernel_rfl) (by first | rfl | (simp; done) | (simp [h0, h3, h4, hB3, hn, hg, hmd, c, hi2, w, hf, hlen, hfit, valsCells_at]; done)) ?_
    simp [h0, h3, h4, hB3, hn, hg, hmd, c, hi2, w, hf, hlen, hfit, valsCells_at]
    refine ⟨⟨i + 1, hi2, by omega, done ++ canL (S.nx + 4 + 9) (Val.sk true l[i]), ?_, ?_, ?_, by omega⟩, upTo_lt h4 (by simp) hi2⟩
    · rw [svs_app, ← hnext]; simp
    · rw [shs_app, hd, canL_shs, List.take_succ_eq_append_getElem hi2, valsSk_app]; simp [valsSk]
    · refine At.app (mid := S.nx + 4 + 9) ?_ ?_ (by omega) (by omega)
      · exact (ha.keep fun b h1 h2 => by ((try simp); (repeat first | rw [if_neg (by omega)] | rw [if_pos (by omega)]); (try (intro h; exfalso; omega)))).le (by omega) (by omega)
      · exact (At.new fun b h1 h2 => by ((try simp); (repeat first | rw [if_neg (by omega)] | rw [if_pos (by omega)]); (try (intro h; exfalso; omega)))).le (by omega) (by omega)
  · have hi3 : i = l.length := by omega
    subst hi3
    rw [List.take_length] at hd
    simp [h0, h3, h4, hB3, hn, hg, hmd, c]
    rw [rowC_all] at hB3
    have hat : At ((S.adv 4).adv 2) 3 S.nx [.row none 3 l.length done] :=
      .row hB3 (by omega) (by omega) ((ha.mono (S' := (S.adv 4).adv 2) rfl).le (by omega) (by omega)) (fun p hp => by have := ha.rng p hp; omega)
    have hsh : (Ld.row none 3 l.length done).sh = skR true l.length (valsSk true l) := by
      simp only [Ld.sh, skR_true, hd]
    have := fend_1 hat
    rw [hsh, skR_true] at this
    exact ⟨_, this⟩
set_option maxHeartbeats 1000000 in
theorem g_toValue (v : Val) (hv : Small v) : valF gl 19 true [v.d] v := by
  match v, hv with
  | .mk k n t l ns, .mk ht hn hns hl hwf =>
    have hs := g_toValueS_of (gl := gl) l hl (fun i hi =>
      have := List.sizeOf_lt_of_mem (List.getElem_mem hi)
      g_toValue l[i] (hwf _ (List.getElem_mem hi)))
    refine FCall.by_ (md := []) Try.func19 rfl (by kernel_rfl) (n := 22) Try.ntmps19 (by simp) (by decide) rfl ?_
    simp [Val.cells]
    repeat refine ⟨DrawT.mk (by kernel_rfl), ?_⟩
    refine CallT.f (n := 40) (hs) (by first | rfl | (simp; done) | (simp; done)) (by first | rfl | kernel_rfl) (by first | rfl | (simp; done) | (simp; done)) ?_
    simp [ Val.cells]
    repeat refine ⟨DrawT.mk (by kernel_rfl), ?_⟩
    refine CallT.f (n := 40) (g_toStringS ns hn) (by first | rfl | (simp; done) | (simp; done)) (by first | rfl | kernel_rfl) (by first | rfl | (simp; done) | (simp; done)) ?_
    simp [ Val.cells]
    refine fin_ag (lo := 20) (cs := [.d (.int .i64 k), .d (.int .i64 n), .d (.string t)] ++ (canL 20 [Sk.row none l.length (valsSk true l)] ++ canL (20 + cntL [Sk.row none l.length (valsSk true l)] + 5) [skS true ns])) (.cons_d (.cons_d (.cons_d (.app (mid := 20 + cntL [Sk.row none l.length (valsSk true l)] + 5) ((At.new ?_).le (by omega) (by omega)) (At.new ?_) (by omega) (by omega))))) ?_ ?_
    · intro b h1 h2
      ((try simp); (repeat first | rw [if_neg (by omega)] | rw [if_pos (by omega)]); (try (intro h; exfalso; omega)))
    · intro b h1 h2
      ((try simp); (repeat first | rw [if_neg (by omega)] | rw [if_pos (by omega)]); (try (intro h; exfalso; omega)))
    · simp [shs_app, canL_shs, shs, Ld.sh, Val.sk]
    · simp [canL]
  termination_by SizeOf.sizeOf v
  decreasing_by
  simp_wf
  omega
end Go.Proofs.Ytghbkljdpikpdaa
