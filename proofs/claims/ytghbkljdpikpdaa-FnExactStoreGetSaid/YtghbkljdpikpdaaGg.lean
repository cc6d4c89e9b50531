/- Marks over data that lie in variables of their own. -/
import Derived.Test.YtghbkljdpikpdaaGb
import Derived.Test.YtghbkljdpikpdaaMk
set_option linter.unusedVariables false
set_option linter.unusedSimpArgs false
set_option maxRecDepth 100000
namespace Go.Proofs.Ytghbkljdpikpdaa
open Go.Sh
variable {gl : Nat → Option D}
mutual
/-- How many marks. -/
def cntV : Val → Nat
  | .mk _ _ _ l ns => 3 + cntVs l + ns.length
def cntVs : List Val → Nat
  | [] => 0
  | v :: r => cntV v + cntVs r
end
mutual
/-- The value with the marks from q on. -/
def markV : Val → Nat → Val
  | .mk _ _ _ l ns, q => .mk q ((q + 1 : Nat) : Int) (markT (q + 2)) (markVs l (q + 3)) (marks (q + 3 + cntVs l) ns.length)
def markVs : List Val → Nat → List Val
  | [], _ => []
  | v :: r, q => markV v q :: markVs r (q + cntV v)
end
theorem markVs_len : ∀ (l : List Val) (q : Nat), (markVs l q).length = l.length
  | [], _ => rfl
  | v :: r, q => by simp [markVs, markVs_len r]
def markNm : Ld → Nat → Ld
  | .row z b m _, q => .row z b m (ldT (marks q m))
  | x, _ => x
def rowMap (f : List Ld → List Ld) : Ld → Ld
  | .row z b m cs => .row z b m (f cs)
  | x => x
@[simp] theorem rowMap_nil (f : List Ld → List Ld) : rowMap f .nil = .nil := (rfl)
@[simp] theorem rowMap_row (f : List Ld → List Ld) (z : Option Nat) (b m : Nat) (cs : List Ld) : rowMap f (.row z b m cs) = .row z b m (f cs) := (rfl)
mutual
/-- The marks, where the value lies. -/
def markLd : Val → List Ld → Nat → List Ld
  | .mk _ _ _ l ns, cs, q => match cs with
    | [_, _, _, X, Y] => [.d (.int .i64 q), .d (.int .i64 ((q + 1 : Nat) : Int)), .d (.string (markT (q + 2))), rowMap (fun cs => markLds l cs (q + 3)) X, markNm Y (q + 3 + cntVs l)]
    | _ => cs
def markLds : List Val → List Ld → Nat → List Ld
  | [], cs, _ => cs
  | v :: r, cs, q => markLd v (cs.take 5) q ++ markLds r (cs.drop 5) (q + cntV v)
end
abbrev ids (cs : List Ld) : List Nat := (varsL cs).map (·.1)
/-- A row of the shape skR. -/
theorem ld_row {e : Bool} {n : Nat} {sk : List Sk} {X : Ld} (h : X.sh = skR e n sk) : (X = .nil ∧ n = 0 ∧ e = false) ∨ ∃ b cs, X = .row none b n cs ∧ shs cs = sk ∧ (n = 0 → e = true) := by
  unfold skR at h
  split at h
  · rename_i hn
    cases X with
    | nil => exact .inl ⟨rfl, hn.1, hn.2⟩
    | d v => simp [Ld.sh] at h
    | row z b m cs => simp [Ld.sh] at h
  · rename_i hn
    cases X with
    | nil => simp [Ld.sh] at h
    | d v => simp [Ld.sh] at h
    | row z b m cs =>
      simp only [Ld.sh, Sk.row.injEq] at h
      obtain ⟨rfl, rfl, h3⟩ := h
      refine .inr ⟨b, cs, rfl, h3, fun h0 => ?_⟩
      cases e with
      | true => rfl
      | false => exact absurd ⟨h0, rfl⟩ hn
theorem ld_texts {cs : List Ld} {l : List ByteArray} (h : shs cs = l.map fun s => .d (.string s)) : cs = ldT l := by
  induction l generalizing cs with
  | nil => cases cs with
    | nil => rfl
    | cons x r => simp [shs] at h
  | cons s l ih => cases cs with
    | nil => simp [shs] at h
    | cons x r =>
      simp only [shs, List.map_cons, List.cons.injEq] at h
      rw [ih h.2]
      cases x with
      | d v => simp only [Ld.sh, Sk.d.injEq] at h; rw [h.1]; rfl
      | nil => simp [Ld.sh] at h
      | row => simp [Ld.sh] at h
theorem ld_d {x : Ld} {v : Value} (h : x.sh = .d v) : x = .d v := by
  cases x with
  | d w => simp only [Ld.sh, Sk.d.injEq] at h; rw [h]
  | nil => simp [Ld.sh] at h
  | row => simp [Ld.sh] at h
/-- A value, where it lies, ahead of others. -/
theorem ld_val {e : Bool} {k n : Int} {t : ByteArray} {l : List Val} {ns : List ByteArray} {cs : List Ld} {r : List Sk} (h : shs cs = (Val.mk k n t l ns).sk e ++ r) :
    ∃ X Y rest, cs = .d (.int .i64 k) :: .d (.int .i64 n) :: .d (.string t) :: X :: Y :: rest ∧ X.sh = skR e l.length (valsSk e l) ∧ Y.sh = skS e ns ∧ shs rest = r := by
  match cs, h with
  | c0 :: c1 :: c2 :: X :: Y :: rest, h =>
    simp only [shs, Val.sk, List.cons_append, List.nil_append, List.cons.injEq] at h
    obtain ⟨h0, h1, h2, h3, h4, h5⟩ := h
    rw [ld_d h0, ld_d h1, ld_d h2]
    exact ⟨X, Y, rest, rfl, h3, h4, h5⟩
  | [], h => simp [shs, Val.sk] at h
  | [_], h => simp [shs, Val.sk] at h
  | [_, _], h => simp [shs, Val.sk] at h
  | [_, _, _], h => simp [shs, Val.sk] at h
  | [_, _, _, _], h => simp [shs, Val.sk] at h
theorem ld_names {e : Bool} {ns : List ByteArray} {Y : Ld} (h : Y.sh = skS e ns) : (Y = .nil ∧ ns = []) ∨ ∃ b, Y = .row none b ns.length (ldT ns) ∧ (ns = [] → e = true) := by
  rcases ld_row h with ⟨h1, h2, _⟩ | ⟨b, cs, h1, h2, h3⟩
  · exact .inl ⟨h1, List.eq_nil_of_length_eq_zero h2⟩
  · exact .inr ⟨b, by rw [h1, ld_texts h2], fun h => h3 (by rw [h]; rfl)⟩
mutual
theorem markLd_sh {e : Bool} : ∀ (v : Val) (cs : List Ld) (q : Nat), shs cs = v.sk e → shs (markLd v cs q) = (markV v q).sk e ∧ ids (markLd v cs q) = ids cs
  | .mk k n t l ns, cs, q, h => by
    obtain ⟨X, Y, rest, rfl, h3, h4, h5⟩ := ld_val (e := e) (k := k) (n := n) (t := t) (l := l) (ns := ns) (r := []) (by rw [h]; simp)
    have : rest = [] := by cases rest with
      | nil => rfl
      | cons x r => simp [shs] at h5
    subst this
    have hX : (rowMap (fun cs => markLds l cs (q + 3)) X).sh = skR e (markVs l (q + 3)).length (valsSk e (markVs l (q + 3))) ∧ (rowMap (fun cs => markLds l cs (q + 3)) X).vars.map (fun p => p.1) = X.vars.map (fun p => p.1) := by
      rcases ld_row h3 with ⟨rfl, h0, he⟩ | ⟨b, cs, rfl, h1, he⟩
      · have : l = [] := List.eq_nil_of_length_eq_zero h0
        subst this; subst he
        exact ⟨by simp [markVs, Ld.sh], rfl⟩
      · obtain ⟨g1, g2⟩ := markLds_sh l cs (q + 3) h1
        refine ⟨?_, by simp only [rowMap_row, Ld.vars, List.map_cons]; exact congrArg _ g2⟩
        simp only [rowMap_row, Ld.sh, g1, markVs_len]
        unfold skR
        rw [if_neg (fun hh => by have := he hh.1; rw [hh.2] at this; cases this)]
    have hY : (markNm Y (q + 3 + cntVs l)).sh = skS e (marks (q + 3 + cntVs l) ns.length) ∧ (markNm Y (q + 3 + cntVs l)).vars.map (·.1) = Y.vars.map (·.1) := by
      rcases ld_names h4 with ⟨rfl, rfl⟩ | ⟨b, rfl, he⟩
      · have he : e = false := by
          cases e with
          | false => rfl
          | true => simp [Ld.sh, skS] at h4
        subst he
        exact ⟨by simp [markNm, Ld.sh, skS, marks], rfl⟩
      · refine ⟨?_, by simp [markNm, Ld.vars]⟩
        simp only [markNm, Ld.sh, ldT_sh, skS, marks_len]
        unfold skR
        rw [if_neg (fun hh => by have := he (List.eq_nil_of_length_eq_zero hh.1); rw [hh.2] at this; cases this)]
    refine ⟨?_, ?_⟩
    · simp only [markLd, shs, markV, Val.sk, Ld.sh, hX.1, hY.1]
    · simp only [ids, markLd, varsL, Ld.vars, List.nil_append, List.append_nil, List.map_append, hX.2, hY.2]
theorem markLds_sh {e : Bool} : ∀ (l : List Val) (cs : List Ld) (q : Nat), shs cs = valsSk e l → shs (markLds l cs q) = valsSk e (markVs l q) ∧ ids (markLds l cs q) = ids cs
  | [], cs, q, h => by
    have : cs = [] := by cases cs with
      | nil => rfl
      | cons x r => simp [shs, valsSk] at h
    subst this; exact ⟨rfl, rfl⟩
  | v :: r, cs, q, h => by
    have hl : cs.length = 5 + (valsSk e r).length := by rw [← shs_len, h]; simp [valsSk]
    have e1 : shs (cs.take 5) = v.sk e := by
      have : shs (cs.take 5) ++ shs (cs.drop 5) = v.sk e ++ valsSk e r := by rw [← shs_app, List.take_append_drop, h]; rfl
      exact (List.append_inj this (by simp; omega)).1
    have e2 : shs (cs.drop 5) = valsSk e r := by
      have : shs (cs.take 5) ++ shs (cs.drop 5) = v.sk e ++ valsSk e r := by rw [← shs_app, List.take_append_drop, h]; rfl
      exact (List.append_inj this (by simp; omega)).2
    obtain ⟨a1, a2⟩ := markLd_sh v (cs.take 5) q e1
    obtain ⟨b1, b2⟩ := markLds_sh r (cs.drop 5) (q + cntV v) e2
    refine ⟨by simp only [markLds, shs_app, a1, b1, markVs, valsSk], ?_⟩
    simp only [ids] at a2 b2 ⊢
    simp only [markLds, varsL_app, List.map_append, a2, b2]
    rw [← List.map_append, ← varsL_app, List.take_append_drop]
end
theorem cntVs_len : ∀ l : List Val, l.length ≤ cntVs l
  | [] => Nat.le_refl _
  | v :: r => by
    have := cntVs_len r
    cases v with
    | mk k n t l ns => simp only [List.length_cons, cntVs, cntV]; omega
theorem cntVs_drop {l : List Val} {i : Nat} (h : i < l.length) : cntVs (l.drop i) = cntV l[i] + cntVs (l.drop (i + 1)) := by
  rw [List.drop_eq_getElem_cons h]; rfl
theorem p_markValueS_nil (n : Nat) : PCall Try.prog gl 43 [valsD [], dI n] (dI n) := by
  refine PCall.by_ (md := []) Try.func43 rfl (by kernel_rfl) (n := 49) Try.ntmps43 (by simp) (by decide) rfl ?_
  simp
  refine LoopT.rounds 1 ?_
  simp [RndT_succ]
theorem p_markStringS_nil (n : Nat) : PCall Try.prog gl 44 [namesD [], dI n] (dI n) := by
  refine PCall.by_ (md := []) Try.func44 rfl (by kernel_rfl) (n := 20) Try.ntmps44 (by simp) (by decide) rfl ?_
  simp
  refine LoopT.rounds 1 ?_
  simp [RndT_succ]
@[simp] theorem rowMap_sv (f : List Ld → List Ld) (X : Ld) : (rowMap f X).sv = X.sv := by cases X <;> rfl
@[simp] theorem markNm_sv (Y : Ld) (q : Nat) : (markNm Y q).sv = Y.sv := by cases Y <;> rfl
mutual
theorem lt_ld {hi : Nat} : ∀ x : Ld, (∀ p ∈ x.vars, p.1 < hi) → x.sv.lt hi = true ∧ ∀ p ∈ x.vars, ltS hi p.2 = true
  | .d v, _ => ⟨rfl, by simp [Ld.vars]⟩
  | .nil, _ => ⟨rfl, by simp [Ld.vars]⟩
  | .row z b n cs, h => by
    simp only [Ld.vars, List.forall_mem_cons] at h ⊢
    obtain ⟨h1, h2⟩ := lt_lds cs h.2
    refine ⟨?_, h1, h2⟩
    cases z <;> simpa [SV.lt] using h.1
theorem lt_lds {hi : Nat} : ∀ cs : List Ld, (∀ p ∈ varsL cs, p.1 < hi) → ltS hi (svs cs) = true ∧ ∀ p ∈ varsL cs, ltS hi p.2 = true
  | [], _ => ⟨rfl, by simp [varsL]⟩
  | x :: r, h => by
    simp only [varsL, List.mem_append] at h ⊢
    obtain ⟨a1, a2⟩ := lt_ld x fun p hp => h p (.inl hp)
    obtain ⟨b1, b2⟩ := lt_lds r fun p hp => h p (.inr hp)
    refine ⟨by simp only [svs_cons, ltS, a1, b1]; rfl, fun p hp => ?_⟩
    rcases hp with hp | hp
    · exact a2 p hp
    · exact b2 p hp
end
/-- What such a call leaves: these variables are V, the others what they were. -/
structure Marked (S S' : St) (V : List (Nat × List SV)) : Prop where
  n : S'.n = S.n
  nx : S'.nx = S.nx
  gl : S'.gl = S.gl
  md : S'.md = S.md
  own : ∀ p ∈ V, S'.B p.1 = some p.2
  old : ∀ x, x < S.nx → x ∉ V.map (fun p => p.1) → S'.B x = S.B x
  T : ∀ x, x < S.nx → S'.T x = S.T x
theorem Marked.refl (S : St) : Marked S S [] := ⟨rfl, rfl, rfl, rfl, by simp, fun _ _ _ => rfl, fun _ _ => rfl⟩
theorem lookN_none {V : List (Nat × List SV)} {x : Nat} (h : x ∉ V.map (fun p => p.1)) : lookN V x = none := by
  cases hl : lookN V x with
  | none => rfl
  | some y => exact absurd (List.mem_map.2 ⟨_, lookN_mem hl, rfl⟩) h
theorem Marked.left {S : St} {V : List (Nat × List SV)} (hd : (V.map (fun p => p.1)).Nodup) : Marked S (leftS S 0 V []) V :=
  ⟨rfl, rfl, rfl, rfl, fun p hp => leftF_new (lookN_of hd hp), fun x hx h => leftF_old (lookN_none h) hx, fun x hx => leftF_old (L := []) rfl hx⟩
theorem CallT_ex {P : Program} {S : St} {g : FuncId} {ss : List SV} {K : Bool → SV → St → Prop} {r : SV} {Q : St → Prop} (h : ∃ S', LCall P g ss S r S' ∧ Q S') (k : ∀ S', Q S' → K true r S') : CallT txtLo P g ss S K := by
  obtain ⟨S', h1, h2⟩ := h
  exact .l h1 rfl (k S' h2)
/-- Names, where they lie. -/
theorem l_markNm (e : Bool) (ns : List ByteArray) (Y : Ld) (hY : Y.sh = skS e ns) (S : St) (z : Int) (q : Nat) (hz : z = (q : Int)) (h1 : 1 ≤ q) (hq : q + ns.length ≤ 1073741824) (hh : ∀ p ∈ Y.vars, S.B p.1 = some p.2 ∧ p.1 < S.nx) :
    ∃ S', LCall Try.prog 44 [Y.sv, .d (dI z)] S (.d (dI ((q + ns.length : Nat) : Int))) S' ∧ Marked S S' (markNm Y q).vars := by
  subst hz
  rcases ld_names hY with ⟨rfl, rfl⟩ | ⟨b, rfl, _⟩
  · refine ⟨S, ?_, Marked.refl S⟩
    exact LCall.ofP (k := 1) (p_markStringS_nil (gl := S.gl) q) rfl
  · have := hh (b, svs (ldT ns)) (by simp [Ld.vars])
    refine ⟨_, l_markStringS S b q ns this.2 (by have h := this.1; rw [ldT_svs, List.map_map] at h; exact h) h1 (by omega) (by omega), ?_⟩
    have hv : (markNm (Ld.row none b ns.length (ldT ns)) q).vars = [(b, cellS (marks q ns.length))] := by
      simp only [markNm, Ld.vars, ldT_svs, ldT_vars, List.map_map]; rfl
    rw [hv]
    exact Marked.left (by simp)
set_option maxHeartbeats 4000000 in
theorem l_markValueS (e : Bool) (l : List Val) (S0 : St) (b n : Nat) (cs : List Ld) (hcs : shs cs = valsSk e l) (hat : At S0 0 S0.nx [.row none b l.length cs]) (h1 : 1 ≤ n) (hn : n + cntVs l ≤ 1073741824) :
    LCall Try.prog 43 [.os b 0 l.length, .d (dI n)] S0 (.d (dI ((n + cntVs l : Nat) : Int))) (leftS S0 0 ((b, svs (markLds l cs n)) :: varsL (markLds l cs n)) []) := by
  have hhas := hat.has
  have hnd := hat.nodup
  simp only [varsL, Ld.vars, List.append_nil, List.forall_mem_cons, List.map_cons, List.nodup_cons] at hhas hnd
  have hrg : ∀ p ∈ varsL cs, p.1 < S0.nx := fun p hp => (hat.rng p (by simp [varsL, Ld.vars, hp])).2
  obtain ⟨hB, hB2⟩ := hhas
  have hb : b < S0.nx := (hat.rng (b, svs cs) (by simp [varsL, Ld.vars])).2
  have hlen := cntVs_len l
  refine LCall.byE (md := []) (leftS_keeps _ _ _ _) (by simp [SV.lt, ltS]) Try.func43 rfl (by kernel_rfl) (n := 49) Try.ntmps43 (by simp) (by decide) rfl ?_
  simp [hB]
  refine LoopT.round (fun E S => ∃ (i : Nat) (done : List Ld) (rest : List Ld) (q : Nat), (i ≤ l.length) ∧ E 0 = some (.os b 0 l.length) ∧ E 1 = some (.d (dI q)) ∧ E 5 = some (.d (dI i)) ∧ S.B b = some (svs done ++ svs rest) ∧ (done ++ markLds (l.drop i) rest q = markLds l cs n) ∧ (shs rest = valsSk e (l.drop i)) ∧ (q + cntVs (l.drop i) = n + cntVs l) ∧ (done.length = i * 5) ∧ (∀ p ∈ varsL (done ++ rest), S.B p.1 = some p.2) ∧ (ids (done ++ rest) = ids cs) ∧ (Old S0 (b :: ids cs) [] S)) (upTo 5 l.length) ⟨0, [], cs, n, by simp [hB]; exact ⟨hcs, fun a b h => hB2 _ h⟩⟩ ?_
  rintro E S hk ⟨i, done, rest, q, hi, h0, h1, h5, hBb, hm, hr, hq, hdl, hh, hid, ho⟩
  have hn : S.n = 49 := by first | (simpa using hk.n) | (have hh := hk.n; simp [hB] at hh; exact hh)
  have hg : S.gl = S0.gl := by first | (simpa using hk.gl) | (have hh := hk.gl; simp [hB] at hh; exact hh)
  have hmd : S.md = [] := by first | (simpa using hk.md) | (have hh := hk.md; simp [hB] at hh; exact hh)
  simp [hB, h0, h1, h5, hBb, hn, hg, hmd]
  have w := wrap64 (n := (i : Int) + 1) (by omega) (by omega)
  refine BrT.dec (fun c => ?_) (fun c => ?_)
  · have hi2 : i < l.length := by omega
    rw [List.drop_eq_getElem_cons hi2] at hm hr hq
    generalize hv : l[i] = v at hm hr hq
    cases v with
    | mk k m t lv ns =>
    simp only [valsSk] at hr
    obtain ⟨X, Y, rest, rfl, hX, hY, hr2⟩ := ld_val hr
    simp only [cntVs, cntV] at hq
    have hA : (svs done).length = i * 5 := by rw [svs_len, hdl]
    have t0 : ∀ L, List.take (i * 5) (svs done ++ L) = svs done := fun L => List.take_left' hA
    have tj : ∀ j L, List.take (i * 5 + j) (svs done ++ L) = svs done ++ L.take j := fun j L => by rw [← hA, List.take_length_add_append]
    have dj : ∀ j L, List.drop (i * 5 + j) (svs done ++ L) = L.drop j := fun j L => by rw [← hA, List.drop_length_add_append]
    have dj2 : ∀ j k L, List.drop (i * 5 + j + k) (svs done ++ L) = L.drop (j + k) := fun j k L => by rw [Nat.add_assoc, dj]
    have gj : ∀ (j : Nat) (L : List SV), (svs done ++ L)[i * 5 + j]? = L[j]? := fun j L => by rw [← hA, List.getElem?_append_right (by omega), Nat.add_sub_cancel_left]
    have wq1 := wrap64 (n := (q : Int) + 1) (by omega) (by omega)
    have wq2 := wrap64 (n := (q : Int) + 1 + 1) (by omega) (by omega)
    have wq3 := wrap64 (n := (q : Int) + 1 + 1 + 1) (by omega) (by omega)
    have g1 : i * 5 + 1 ≤ done.length + (rest.length + 1 + 1 + 1 + 1 + 1) := by omega
    simp [hB, h0, h1, h5, hBb, hn, hg, hmd, c, hi2, t0, tj, dj, dj2, gj, wq1, wq2, wq3, w, hdl]
    refine ⟨by omega, ?_⟩
    repeat refine ⟨DrawT.mk (by kernel_rfl), ?_⟩
    refine CallT.p0 (p_markText (q + 2) (by omega) (by omega)) (by first | rfl | (simp; done) | (simp [hB, h0, h1, h5, hBb, hn, hg, hmd, c, hi2, t0, tj, dj, dj2, gj, wq1, wq2, wq3, w, hdl]; done)) (by first | rfl | (simp; done) | (simp; rfl)) ?_
    simp [hB, h0, h1, h5, hBb, hn, hg, hmd, c, hi2, t0, tj, dj, dj2, gj, wq1, wq2, wq3, w, hdl]
    have hX' : ∀ (S1 : St) (z : Int), z = ((q + 3 : Nat) : Int) → (∀ p ∈ X.vars, S1.B p.1 = some p.2 ∧ p.1 < S1.nx) → (X.vars.map (fun p => p.1)).Nodup →
        ∃ S', LCall Try.prog 43 [X.sv, .d (dI z)] S1 (.d (dI ((q + 3 + cntVs lv : Nat) : Int))) S' ∧ Marked S1 S' (rowMap (fun cs => markLds lv cs (q + 3)) X).vars := by
      intro S1 z hz hv1 hv2
      subst hz
      rcases ld_row hX with ⟨rfl, h0, _⟩ | ⟨bx, csx, rfl, h1, _⟩
      · have : lv = [] := List.eq_nil_of_length_eq_zero h0
        subst this
        exact ⟨S1, LCall.ofP (k := 1) (p_markValueS_nil (gl := S1.gl) (q + 3)) rfl, Marked.refl S1⟩
      · have hsz : SizeOf.sizeOf lv < SizeOf.sizeOf l := by
          have := List.sizeOf_lt_of_mem (List.getElem_mem hi2)
          rw [hv] at this
          simp only [Val.mk.sizeOf_spec] at this
          omega
        have hids := (markLds_sh lv csx (q + 3) h1).2
        refine ⟨_, l_markValueS e lv S1 bx (q + 3) csx h1 ⟨?_, ?_, ?_⟩ (by omega) (by omega), ?_⟩
        · simpa [varsL] using fun p hp => (hv1 p hp).1
        · simpa [varsL] using hv2
        · simpa [varsL] using fun p hp => (hv1 p hp).2
        · refine Marked.left ?_
          simp only [ids] at hids
          simp only [List.map_cons, hids]
          simpa [Ld.vars] using hv2
    have hnx : S0.nx ≤ S.nx := by have := hk.nx; simp at this; omega
    have hin : ∀ p ∈ varsL (done ++ .d (.int .i64 k) :: .d (.int .i64 m) :: .d (.string t) :: X :: Y :: rest), p.1 ≠ b ∧ p.1 < S0.nx := fun p hp => by
      have : p.1 ∈ ids cs := by rw [← hid]; exact List.mem_map_of_mem hp
      obtain ⟨p', h1', h2'⟩ := List.mem_map.1 this
      refine ⟨fun e => hnd.1 (List.mem_map.2 ⟨p', h1', by rw [h2', e]⟩), ?_⟩
      rw [← h2']; exact hrg p' h1'
    have hnd2 : (ids (done ++ .d (.int .i64 k) :: .d (.int .i64 m) :: .d (.string t) :: X :: Y :: rest)).Nodup := by rw [hid]; exact hnd.2
    have ev : varsL (done ++ .d (.int .i64 k) :: .d (.int .i64 m) :: .d (.string t) :: X :: Y :: rest) = varsL done ++ (X.vars ++ (Y.vars ++ varsL rest)) := by
      simp [varsL_app, varsL, Ld.vars]
    rw [ev] at hin hh
    simp only [ids, ev, List.map_append] at hnd2
    obtain ⟨nd1, nd2, nd3⟩ := List.nodup_append.1 hnd2
    obtain ⟨nd4, nd5, nd6⟩ := List.nodup_append.1 nd2
    obtain ⟨nd7, nd8, nd9⟩ := List.nodup_append.1 nd5
    have bnd : ∀ p ∈ X.vars, ¬ p.1 = b := fun p hp => (hin p (by simp [hp])).1
    have bnY : ∀ p ∈ Y.vars, ¬ p.1 = b := fun p hp => (hin p (by simp [hp])).1
    refine ⟨by omega, ?_⟩
    refine CallT_ex (hX' _ _ (by omega) (fun p hp => ⟨by have := hh p (by simp [hp]); simpa [bnd p hp] using this, by have := (hin p (by simp [hp])).2; simp; omega⟩) nd4) (fun S2 hM => ?_)
    have hXi : (rowMap (fun cs => markLds lv cs (q + 3)) X).vars.map (fun p => p.1) = X.vars.map (fun p => p.1) := by
      rcases ld_row hX with ⟨rfl, h0, _⟩ | ⟨bx, csx, rfl, h1, _⟩
      · rfl
      · have hids := (markLds_sh lv csx (q + 3) h1).2
        simp only [ids] at hids
        simp only [rowMap_row, Ld.vars, List.map_cons, hids]
    have hBb2 : S2.B b = some (svs done ++ .d (dI q) :: .d (dI ((q : Int) + 1)) :: .d (dS (markT (q + 2))) :: X.sv :: Y.sv :: svs rest) := by
      rw [hM.old b (by simp; omega) (by rw [hXi]; intro h; obtain ⟨p, h1, h2⟩ := List.mem_map.1 h; exact bnd p h1 h2)]
      simp
    have hn2 : S2.n = 49 := by rw [hM.n]; simpa using hn
    have hnx2 : S.nx ≤ S2.nx := by rw [hM.nx]; first | (simp; done) | (simp; omega)
    have wq4 := wrap64 (n := (q : Int) + 1 + 1 + 1 + cntVs lv) (by omega) (by omega)
    simp [hB, h0, h1, h5, hBb, hn, hg, hmd, c, hi2, t0, tj, dj, dj2, gj, wq1, wq2, wq3, w, hdl, hBb2, hn2, wq4]
    have out2 : ∀ p : Nat × List SV, p.1 < S0.nx → ¬ p.1 = b → p.1 ∉ X.vars.map (fun p => p.1) → S2.B p.1 = S.B p.1 := fun p hp1 hp2 hp3 => by
      rw [hM.old p.1 (by simp; omega) (by rw [hXi]; exact hp3)]
      simp [hp2]
    have yX : ∀ p ∈ Y.vars, p.1 ∉ X.vars.map (fun p => p.1) := fun p hp h => nd6 _ h _ (by simp only [List.mem_append]; exact .inl (List.mem_map_of_mem hp)) rfl
    have rX : ∀ p ∈ varsL rest, p.1 ∉ X.vars.map (fun p => p.1) := fun p hp h => nd6 _ h _ (by simp only [List.mem_append]; exact .inr (List.mem_map_of_mem hp)) rfl
    have rY : ∀ p ∈ varsL rest, p.1 ∉ Y.vars.map (fun p => p.1) := fun p hp h => nd9 _ h _ (List.mem_map_of_mem hp) rfl
    have dX : ∀ p ∈ varsL done, p.1 ∉ X.vars.map (fun p => p.1) := fun p hp h => nd3 _ (List.mem_map_of_mem hp) _ (by simp only [List.mem_append]; exact .inl h) rfl
    have dY : ∀ p ∈ varsL done, p.1 ∉ Y.vars.map (fun p => p.1) := fun p hp h => nd3 _ (List.mem_map_of_mem hp) _ (by simp only [List.mem_append]; exact .inr (.inl h)) rfl
    refine CallT_ex (l_markNm e ns Y hY _ _ (q + 3 + cntVs lv) (by omega) (by omega) (by omega) (fun p hp => ⟨?_, ?_⟩)) (fun S3 hM3 => ?_)
    · show S2.B p.1 = _
      rw [out2 p (hin p (by simp [hp])).2 (bnY p hp) (yX p hp)]
      exact hh p (by simp [hp])
    · have := (hin p (by simp [hp])).2
      simp; omega
    have hYi : (markNm Y (q + 3 + cntVs lv)).vars.map (fun p => p.1) = Y.vars.map (fun p => p.1) := by
      rcases ld_names hY with ⟨rfl, rfl⟩ | ⟨by_, rfl, _⟩
      · rfl
      · simp [markNm, Ld.vars]
    have out3 : ∀ x, x < S0.nx → x ∉ Y.vars.map (fun p => p.1) → S3.B x = S2.B x := fun x hx h => by
      rw [hM3.old x (by simp; omega) (by rw [hYi]; exact h)]; rfl
    have hBb3 : S3.B b = some (svs done ++ .d (dI q) :: .d (dI ((q : Int) + 1)) :: .d (dS (markT (q + 2))) :: X.sv :: Y.sv :: svs rest) := by
      rw [out3 b hb (fun h => by obtain ⟨p, h1, h2⟩ := List.mem_map.1 h; exact bnY p h1 h2)]
      exact hBb2
    have hn3 : S3.n = 49 := by rw [hM3.n]; simpa using hn2
    simp [hB, h0, h1, h5, hBb, hn, hg, hmd, c, hi2, t0, tj, dj, dj2, gj, wq1, wq2, wq3, w, hdl, hBb2, hn2, wq4, hn3, hBb3]
    have e5 : markLd (.mk k m t lv ns) [.d (.int .i64 k), .d (.int .i64 m), .d (.string t), X, Y] q = [.d (.int .i64 q), .d (.int .i64 ((q + 1 : Nat) : Int)), .d (.string (markT (q + 2))), rowMap (fun cs => markLds lv cs (q + 3)) X, markNm Y (q + 3 + cntVs lv)] := by simp only [markLd]
    have ev2 : varsL ((done ++ markLd (.mk k m t lv ns) [.d (.int .i64 k), .d (.int .i64 m), .d (.string t), X, Y] q) ++ rest) = varsL done ++ ((rowMap (fun cs => markLds lv cs (q + 3)) X).vars ++ ((markNm Y (q + 3 + cntVs lv)).vars ++ varsL rest)) := by
      rw [e5]; simp [varsL_app, varsL, Ld.vars]
    refine ⟨⟨i + 1, hi2, done ++ markLd (.mk k m t lv ns) [.d (.int .i64 k), .d (.int .i64 m), .d (.string t), X, Y] q, rest, q + (3 + cntVs lv + ns.length), by omega, by omega, ?_, ?_, hr2, by omega, ?_, ?_, ?_, ?_⟩, upTo_lt h5 (by simp) hi2⟩
    · rw [e5]; simp
    · rw [← hm]; simp [markLds, cntV]
    · rw [e5]; simp [hdl]; omega
    · intro a c hac
      rw [ev2] at hac
      simp only [List.mem_append] at hac
      rcases hac with h | h | h | h
      · rw [out3 a (hin (a, c) (by simp [h])).2 (dY _ h), out2 (a, c) (hin (a, c) (by simp [h])).2 (hin (a, c) (by simp [h])).1 (dX _ h)]
        exact hh (a, c) (by simp [h])
      · have hx : a ∈ X.vars.map (fun p => p.1) := by rw [← hXi]; exact List.mem_map_of_mem h
        obtain ⟨p, hp, e⟩ := List.mem_map.1 hx
        rw [out3 a (by rw [← e]; exact (hin p (by simp [hp])).2) (fun hy => nd6 _ hx _ (by simp only [List.mem_append]; exact .inl hy) rfl)]
        exact hM.own _ h
      · exact hM3.own _ h
      · rw [out3 a (hin (a, c) (by simp [h])).2 (rY _ h), out2 (a, c) (hin (a, c) (by simp [h])).2 (hin (a, c) (by simp [h])).1 (rX _ h)]
        exact hh (a, c) (by simp [h])
    · rw [← hid]
      simp only [ids, ev, ev2, List.map_append, hXi, hYi]
    · intro x hx
      have hox := ho x hx
      refine ⟨fun h => ?_, fun h => ?_⟩
      · simp only [List.mem_cons, not_or] at h
        have hx1 : x ∉ X.vars.map (fun p => p.1) := fun h' => h.2 (by rw [← hid]; simp only [ids, ev, List.map_append, List.mem_append]; exact .inr (.inl h'))
        have hx2 : x ∉ Y.vars.map (fun p => p.1) := fun h' => h.2 (by rw [← hid]; simp only [ids, ev, List.map_append, List.mem_append]; exact .inr (.inr (.inl h')))
        rw [← hox.1 (by simp [h.1, h.2])]
        show S3.B x = _
        rw [out3 x hx hx2]
        exact out2 (x, []) hx h.1 hx1
      · rw [← hox.2 h]
        show S3.T x = _
        rw [hM3.T x (by simp; omega)]
        show S2.T x = _
        rw [hM.T x (by simp; omega)]
        rfl
  · have hi3 : i = l.length := by omega
    subst hi3
    rw [List.drop_eq_nil_of_le (by omega)] at hm hr hq
    have hr0 : rest = [] := by cases rest with
      | nil => rfl
      | cons x r => simp [shs, valsSk] at hr
    subst hr0
    simp only [markLds, List.append_nil] at hm hh hid
    simp only [cntVs, Nat.add_zero] at hq
    subst hm
    simp [hB, h0, h1, h5, hBb, hn, hg, hmd, c]
    have hlt : ∀ p ∈ varsL (markLds l cs n), p.1 < S0.nx := fun p hp => by
      have : p.1 ∈ ids cs := by rw [← hid]; exact List.mem_map_of_mem hp
      obtain ⟨p', h1', h2'⟩ := List.mem_map.1 this
      rw [← h2']; exact hrg p' h1'
    obtain ⟨l1, l2⟩ := lt_lds _ hlt
    refine ⟨by omega, elder_old (bs := b :: ids cs) (ts := []) ho ?_ (by simp) ?_ (by simp) (fun x hx _ hl => ?_) (by simp)⟩
    · intro p hp
      rcases List.mem_cons.1 hp with rfl | hp
      · show S.B b = _
        rw [hBb]; simp
      · exact hh p hp
    · intro p hp
      rcases List.mem_cons.1 hp with rfl | hp
      · exact ⟨hb, l1⟩
      · exact ⟨hlt p hp, l2 p hp⟩
    · exfalso
      have hm : x ∈ ((b, svs (markLds l cs n)) :: varsL (markLds l cs n)).map (fun p => p.1) := by
        rcases List.mem_cons.1 hx with rfl | hx
        · simp
        · rw [← hid] at hx
          exact List.mem_cons_of_mem _ hx
      obtain ⟨p, hp, rfl⟩ := List.mem_map.1 hm
      have nd : (((b, svs (markLds l cs n)) :: varsL (markLds l cs n)).map (fun p => p.1)).Nodup := by
        simp only [List.map_cons, List.nodup_cons]
        simp only [ids] at hid
        rw [hid]; exact hnd
      rw [lookN_of nd hp] at hl; cases hl
  termination_by SizeOf.sizeOf l
end Go.Proofs.Ytghbkljdpikpdaa
