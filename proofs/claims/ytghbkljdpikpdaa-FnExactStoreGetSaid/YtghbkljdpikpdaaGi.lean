/- Marks over nodes. -/
import Derived.Test.YtghbkljdpikpdaaGh
set_option linter.unusedVariables false
set_option linter.unusedSimpArgs false
set_option maxRecDepth 100000
namespace Go.Proofs.Ytghbkljdpikpdaa
open Go.Sh
variable {gl : Nat → Option D}
def cntN : Nod → Nat
  | ⟨_, _, .mk _ _ _ l ns⟩ => 5 + cntVs l + ns.length
def cntNs : List Nod → Nat
  | [] => 0
  | n :: r => cntN n + cntNs r
def markN : Nod → Nat → Nod
  | ⟨_, _, .mk _ _ _ l ns⟩, q => ⟨q, markT (q + 1), .mk ((q + 2 : Nat) : Int) ((q + 3 : Nat) : Int) (markT (q + 4)) (markVs l (q + 5)) (marks (q + 5 + cntVs l) ns.length)⟩
def markNs : List Nod → Nat → List Nod
  | [], _ => []
  | n :: r, q => markN n q :: markNs r (q + cntN n)
theorem markNs_len : ∀ (l : List Nod) (q : Nat), (markNs l q).length = l.length
  | [], _ => rfl
  | v :: r, q => by simp [markNs, markNs_len r]
def markNdL : Nod → List Ld → Nat → List Ld
  | ⟨_, _, .mk _ _ _ l ns⟩, cs, q => match cs with
    | [_, _, _, _, _, X, Y] => [.d (.int .i64 q), .d (.string (markT (q + 1))), .d (.int .i64 ((q + 2 : Nat) : Int)), .d (.int .i64 ((q + 3 : Nat) : Int)), .d (.string (markT (q + 4))), rowMap (fun cs => markLds l cs (q + 5)) X, markNm Y (q + 5 + cntVs l)]
    | _ => cs
def markNdsL : List Nod → List Ld → Nat → List Ld
  | [], cs, _ => cs
  | n :: r, cs, q => markNdL n (cs.take 7) q ++ markNdsL r (cs.drop 7) (q + cntN n)
theorem nodsSk_cons (e : Bool) (n : Nod) (r : List Nod) : nodsSk e (n :: r) = n.sk e ++ nodsSk e r := by simp [nodsSk]
/-- A node, where it lies, ahead of others. -/
theorem ld_nod {e : Bool} {id k m : Int} {ty t : ByteArray} {l : List Val} {ns : List ByteArray} {cs : List Ld} {r : List Sk} (h : shs cs = (Nod.mk id ty (.mk k m t l ns)).sk e ++ r) :
    ∃ X Y rest, cs = .d (.int .i64 id) :: .d (.string ty) :: .d (.int .i64 k) :: .d (.int .i64 m) :: .d (.string t) :: X :: Y :: rest ∧ X.sh = skR e l.length (valsSk e l) ∧ Y.sh = skS e ns ∧ shs rest = r := by
  match cs, h with
  | a :: b :: cs, h =>
    simp only [shs, Nod.sk, List.cons_append, List.cons.injEq] at h
    obtain ⟨h0, h1, h2⟩ := h
    obtain ⟨X, Y, rest, rfl, h3, h4, h5⟩ := ld_val h2
    rw [ld_d h0, ld_d h1]
    exact ⟨X, Y, rest, rfl, h3, h4, h5⟩
  | [], h => simp [shs, Nod.sk] at h
  | [_], h => simp [shs, Nod.sk, Val.sk] at h
theorem markNdsL_sh {e : Bool} : ∀ (l : List Nod) (cs : List Ld) (q : Nat), shs cs = nodsSk e l → shs (markNdsL l cs q) = nodsSk e (markNs l q) ∧ ids (markNdsL l cs q) = ids cs
  | [], cs, q, h => by
    have : cs = [] := by cases cs with
      | nil => rfl
      | cons x r => simp [shs, nodsSk] at h
    subst this; exact ⟨rfl, rfl⟩
  | ⟨id, ty, .mk k m t l ns⟩ :: r, cs, q, h => by
    rw [nodsSk_cons] at h
    obtain ⟨X, Y, rest, rfl, hX, hY, hr⟩ := ld_nod h
    obtain ⟨b1, b2⟩ := markNdsL_sh r rest (q + cntN ⟨id, ty, .mk k m t l ns⟩) hr
    have eX : (rowMap (fun cs => markLds l cs (q + 5)) X).sh = skR e (markVs l (q + 5)).length (valsSk e (markVs l (q + 5))) := by
      rcases ld_row hX with ⟨rfl, h0, he⟩ | ⟨b, cs, rfl, h1, he⟩
      · have : l = [] := List.eq_nil_of_length_eq_zero h0
        subst this; subst he
        simp [markVs, Ld.sh]
      · simp only [rowMap_row, Ld.sh, (markLds_sh l cs (q + 5) h1).1, markVs_len]
        unfold skR
        rw [if_neg (fun hh => by have := he hh.1; rw [hh.2] at this; cases this)]
    have eY : (markNm Y (q + 5 + cntVs l)).sh = skS e (marks (q + 5 + cntVs l) ns.length) := by
      rcases ld_names hY with ⟨rfl, rfl⟩ | ⟨b, rfl, he⟩
      · have he : e = false := by
          cases e with
          | false => rfl
          | true => simp [Ld.sh, skS] at hY
        subst he
        simp [markNm, Ld.sh, skS, marks]
      · simp only [markNm, Ld.sh, ldT_sh, skS, marks_len]
        unfold skR
        rw [if_neg (fun hh => by have := he (List.eq_nil_of_length_eq_zero hh.1); rw [hh.2] at this; cases this)]
    simp only [ids] at b2 ⊢
    refine ⟨?_, ?_⟩
    · simp only [markNdsL, List.take, List.drop, markNdL, shs_app, shs, Ld.sh, eX, eY, b1, markNs, nodsSk_cons, Nod.sk, markN, Val.sk]
    · simp only [markNdsL, List.take, List.drop, markNdL, varsL_app, varsL, Ld.vars, List.map_append, List.nil_append, List.append_nil, rowMap_ids hX, markNm_ids hY, b2, List.append_assoc]
theorem cntNs_len : ∀ l : List Nod, l.length ≤ cntNs l
  | [] => Nat.le_refl _
  | ⟨_, _, .mk _ _ _ l ns⟩ :: r => by
    have := cntNs_len r
    simp only [List.length_cons, cntNs, cntN]; omega
set_option maxHeartbeats 4000000 in
theorem l_markNodeS (e : Bool) (l : List Nod) (S0 : St) (b n : Nat) (cs : List Ld) (hcs : shs cs = nodsSk e l) (hat : At S0 0 S0.nx [.row none b l.length cs]) (h1 : 1 ≤ n) (hn : n + cntNs l ≤ 1073741824) :
    LCall Try.prog 14 [.os b 0 l.length, .d (dI n)] S0 (.d (dI ((n + cntNs l : Nat) : Int))) (leftS S0 0 ((b, svs (markNdsL l cs n)) :: varsL (markNdsL l cs n)) []) := by
  have hhas := hat.has
  have hnd := hat.nodup
  simp only [varsL, Ld.vars, List.append_nil, List.forall_mem_cons, List.map_cons, List.nodup_cons] at hhas hnd
  have hrg : ∀ p ∈ varsL cs, p.1 < S0.nx := fun p hp => (hat.rng p (by simp [varsL, Ld.vars, hp])).2
  obtain ⟨hB, hB2⟩ := hhas
  have hb : b < S0.nx := (hat.rng (b, svs cs) (by simp [varsL, Ld.vars])).2
  have hlen := cntNs_len l
  refine LCall.byE (md := []) (leftS_keeps _ _ _ _) (by simp [SV.lt, ltS]) Try.func14 rfl (by kernel_rfl) (n := 69) Try.ntmps14 (by simp) (by decide) rfl ?_
  simp [hB]
  refine LoopT.round (fun E S => ∃ (i : Nat) (done : List Ld) (rest : List Ld) (q : Nat), (i ≤ l.length) ∧ E 0 = some (.os b 0 l.length) ∧ E 1 = some (.d (dI q)) ∧ E 5 = some (.d (dI i)) ∧ S.B b = some (svs done ++ svs rest) ∧ (done ++ markNdsL (l.drop i) rest q = markNdsL l cs n) ∧ (shs rest = nodsSk e (l.drop i)) ∧ (q + cntNs (l.drop i) = n + cntNs l) ∧ (done.length = i * 7) ∧ (∀ p ∈ varsL (done ++ rest), S.B p.1 = some p.2) ∧ (ids (done ++ rest) = ids cs) ∧ (Old S0 (b :: ids cs) [] S)) (upTo 5 l.length) ⟨0, [], cs, n, by simp [hB]; exact ⟨hcs, fun a b h => hB2 _ h⟩⟩ ?_
  rintro E S hk ⟨i, done, rest, q, hi, h0, h1, h5, hBb, hm, hr, hq, hdl, hh, hid, ho⟩
  have hn : S.n = 69 := by first | (simpa using hk.n) | (have hh := hk.n; simp [hB] at hh; exact hh)
  have hg : S.gl = S0.gl := by first | (simpa using hk.gl) | (have hh := hk.gl; simp [hB] at hh; exact hh)
  have hmd : S.md = [] := by first | (simpa using hk.md) | (have hh := hk.md; simp [hB] at hh; exact hh)
  simp [hB, h0, h1, h5, hBb, hn, hg, hmd]
  have w := wrap64 (n := (i : Int) + 1) (by omega) (by omega)
  refine BrT.dec (fun c => ?_) (fun c => ?_)
  · have hi2 : i < l.length := by omega
    rw [List.drop_eq_getElem_cons hi2] at hm hr hq
    generalize hv : l[i] = v at hm hr hq
    obtain ⟨id, ty, v⟩ := v
    cases v with
    | mk k m t lv ns =>
    rw [nodsSk_cons] at hr
    obtain ⟨X, Y, rest, rfl, hX, hY, hr2⟩ := ld_nod hr
    simp only [cntNs, cntN] at hq
    have hA : (svs done).length = i * 7 := by rw [svs_len, hdl]
    have t0 : ∀ L, List.take (i * 7) (svs done ++ L) = svs done := fun L => List.take_left' hA
    have tj : ∀ j L, List.take (i * 7 + j) (svs done ++ L) = svs done ++ L.take j := fun j L => by rw [← hA, List.take_length_add_append]
    have dj : ∀ j L, List.drop (i * 7 + j) (svs done ++ L) = L.drop j := fun j L => by rw [← hA, List.drop_length_add_append]
    have dj2 : ∀ j k L, List.drop (i * 7 + j + k) (svs done ++ L) = L.drop (j + k) := fun j k L => by rw [Nat.add_assoc, dj]
    have gj : ∀ (j : Nat) (L : List SV), (svs done ++ L)[i * 7 + j]? = L[j]? := fun j L => by rw [← hA, List.getElem?_append_right (by omega), Nat.add_sub_cancel_left]
    have tj2 : ∀ j k L, List.take (i * 7 + j + k) (svs done ++ L) = svs done ++ L.take (j + k) := fun j k L => by rw [Nat.add_assoc, tj]
    have dj3 : ∀ a b c L, List.drop (i * 7 + a + b + c) (svs done ++ L) = L.drop (a + b + c) := fun a b c L => by rw [Nat.add_assoc, Nat.add_assoc, dj, Nat.add_assoc]
    have gj2 : ∀ (j k : Nat) (L : List SV), (svs done ++ L)[i * 7 + j + k]? = L[j + k]? := fun j k L => by rw [Nat.add_assoc, gj]
    have wq1 := wrap64 (n := (q : Int) + 1) (by omega) (by omega)
    have wq2 := wrap64 (n := (q : Int) + 1 + 1) (by omega) (by omega)
    have wq3 := wrap64 (n := (q : Int) + 1 + 1 + 1) (by omega) (by omega)
    have wq5 := wrap64 (n := (q : Int) + 1 + 1 + 1 + 1) (by omega) (by omega)
    have wq6 := wrap64 (n := (q : Int) + 1 + 1 + 1 + 1 + 1) (by omega) (by omega)
    simp [hB, h0, h1, h5, hBb, hn, hg, hmd, c, hi2, t0, tj, dj, dj2, gj, tj2, dj3, gj2, wq1, wq2, wq3, wq5, wq6, w, hdl]
    repeat refine ⟨DrawT.mk (by kernel_rfl), ?_⟩
    refine CallT.p0 (p_markText (q + 1) (by omega) (by omega)) (by first | rfl | (simp; done) | (simp [hB, h0, h1, h5, hBb, hn, hg, hmd, c, hi2, t0, tj, dj, dj2, gj, tj2, dj3, gj2, wq1, wq2, wq3, wq5, wq6, w, hdl]; done)) (by first | rfl | (simp; done) | (simp; rfl)) ?_
    simp [hB, h0, h1, h5, hBb, hn, hg, hmd, c, hi2, t0, tj, dj, dj2, gj, tj2, dj3, gj2, wq1, wq2, wq3, wq5, wq6, w, hdl]
    refine ⟨by omega, by omega, by omega, ?_⟩
    repeat refine ⟨DrawT.mk (by kernel_rfl), ?_⟩
    refine CallT.p0 (p_markText (q + 4) (by omega) (by omega)) (by first | rfl | (simp; done) | (simp [hB, h0, h1, h5, hBb, hn, hg, hmd, c, hi2, t0, tj, dj, dj2, gj, tj2, dj3, gj2, wq1, wq2, wq3, wq5, wq6, w, hdl]; done)) (by first | rfl | (simp; done) | (simp; rfl)) ?_
    simp [hB, h0, h1, h5, hBb, hn, hg, hmd, c, hi2, t0, tj, dj, dj2, gj, tj2, dj3, gj2, wq1, wq2, wq3, wq5, wq6, w, hdl]
    refine ⟨by omega, ?_⟩
    have hnx : S0.nx ≤ S.nx := by have := hk.nx; simp at this; omega
    have hin : ∀ p ∈ varsL (done ++ .d (.int .i64 id) :: .d (.string ty) :: .d (.int .i64 k) :: .d (.int .i64 m) :: .d (.string t) :: X :: Y :: rest), p.1 ≠ b ∧ p.1 < S0.nx := fun p hp => by
      have : p.1 ∈ ids cs := by rw [← hid]; exact List.mem_map_of_mem hp
      obtain ⟨p', h1', h2'⟩ := List.mem_map.1 this
      refine ⟨fun e => hnd.1 (List.mem_map.2 ⟨p', h1', by rw [h2', e]⟩), ?_⟩
      rw [← h2']; exact hrg p' h1'
    have hnd2 : (ids (done ++ .d (.int .i64 id) :: .d (.string ty) :: .d (.int .i64 k) :: .d (.int .i64 m) :: .d (.string t) :: X :: Y :: rest)).Nodup := by rw [hid]; exact hnd.2
    have ev : varsL (done ++ .d (.int .i64 id) :: .d (.string ty) :: .d (.int .i64 k) :: .d (.int .i64 m) :: .d (.string t) :: X :: Y :: rest) = varsL done ++ (X.vars ++ (Y.vars ++ varsL rest)) := by
      simp [varsL_app, varsL, Ld.vars]
    rw [ev] at hin hh
    simp only [ids, ev, List.map_append] at hnd2
    obtain ⟨nd1, nd2, nd3⟩ := List.nodup_append.1 hnd2
    obtain ⟨nd4, nd5, nd6⟩ := List.nodup_append.1 nd2
    obtain ⟨nd7, nd8, nd9⟩ := List.nodup_append.1 nd5
    have bnd : ∀ p ∈ X.vars, ¬ p.1 = b := fun p hp => (hin p (by simp [hp])).1
    have bnY : ∀ p ∈ Y.vars, ¬ p.1 = b := fun p hp => (hin p (by simp [hp])).1
    refine CallT_ex (l_markRow e lv X hX _ _ (q + 5) (by omega) (by omega) (by omega) (fun p hp => ⟨by have := hh p (by simp [hp]); simpa [bnd p hp] using this, by have := (hin p (by simp [hp])).2; simp; omega⟩) nd4) (fun S2 hM => ?_)
    have hXi := rowMap_ids hX (q + 5)
    have hBb2 : S2.B b = some (svs done ++ .d (dI q) :: .d (dS (markT (q + 1))) :: .d (dI ((q : Int) + 1 + 1)) :: .d (dI ((q : Int) + 1 + 1 + 1)) :: .d (dS (markT (q + 4))) :: X.sv :: Y.sv :: svs rest) := by
      rw [hM.old b (by simp; omega) (by rw [hXi]; intro h; obtain ⟨p, h1, h2⟩ := List.mem_map.1 h; exact bnd p h1 h2)]
      simp
    have hn2 : S2.n = 69 := by rw [hM.n]; simpa using hn
    have hnx2 : S.nx ≤ S2.nx := by rw [hM.nx]; first | (simp; done) | (simp; omega)
    have wq4 := wrap64 (n := (q : Int) + 1 + 1 + 1 + cntVs lv) (by omega) (by omega)
    simp [hB, h0, h1, h5, hBb, hn, hg, hmd, c, hi2, t0, tj, dj, dj2, gj, tj2, dj3, gj2, wq1, wq2, wq3, wq5, wq6, w, hdl, hBb2, hn2, wq4]
    have out2 : ∀ p : Nat × List SV, p.1 < S0.nx → ¬ p.1 = b → p.1 ∉ X.vars.map (fun p => p.1) → S2.B p.1 = S.B p.1 := fun p hp1 hp2 hp3 => by
      rw [hM.old p.1 (by simp; omega) (by rw [hXi]; exact hp3)]
      simp [hp2]
    have yX : ∀ p ∈ Y.vars, p.1 ∉ X.vars.map (fun p => p.1) := fun p hp h => nd6 _ h _ (by simp only [List.mem_append]; exact .inl (List.mem_map_of_mem hp)) rfl
    have rX : ∀ p ∈ varsL rest, p.1 ∉ X.vars.map (fun p => p.1) := fun p hp h => nd6 _ h _ (by simp only [List.mem_append]; exact .inr (List.mem_map_of_mem hp)) rfl
    have rY : ∀ p ∈ varsL rest, p.1 ∉ Y.vars.map (fun p => p.1) := fun p hp h => nd9 _ h _ (List.mem_map_of_mem hp) rfl
    have dX : ∀ p ∈ varsL done, p.1 ∉ X.vars.map (fun p => p.1) := fun p hp h => nd3 _ (List.mem_map_of_mem hp) _ (by simp only [List.mem_append]; exact .inl h) rfl
    have dY : ∀ p ∈ varsL done, p.1 ∉ Y.vars.map (fun p => p.1) := fun p hp h => nd3 _ (List.mem_map_of_mem hp) _ (by simp only [List.mem_append]; exact .inr (.inl h)) rfl
    refine CallT_ex (l_markNm e ns Y hY _ _ (q + 5 + cntVs lv) (by omega) (by omega) (by omega) (fun p hp => ⟨?_, ?_⟩)) (fun S3 hM3 => ?_)
    · show S2.B p.1 = _
      rw [out2 p (hin p (by simp [hp])).2 (bnY p hp) (yX p hp)]
      exact hh p (by simp [hp])
    · have := (hin p (by simp [hp])).2
      simp; omega
    have hYi := markNm_ids hY (q + 5 + cntVs lv)
    have out3 : ∀ x, x < S0.nx → x ∉ Y.vars.map (fun p => p.1) → S3.B x = S2.B x := fun x hx h => by
      rw [hM3.old x (by simp; omega) (by rw [hYi]; exact h)]; rfl
    have hBb3 : S3.B b = some (svs done ++ .d (dI q) :: .d (dS (markT (q + 1))) :: .d (dI ((q : Int) + 1 + 1)) :: .d (dI ((q : Int) + 1 + 1 + 1)) :: .d (dS (markT (q + 4))) :: X.sv :: Y.sv :: svs rest) := by
      rw [out3 b hb (fun h => by obtain ⟨p, h1, h2⟩ := List.mem_map.1 h; exact bnY p h1 h2)]
      exact hBb2
    have hn3 : S3.n = 69 := by rw [hM3.n]; simpa using hn2
    simp [hB, h0, h1, h5, hBb, hn, hg, hmd, c, hi2, t0, tj, dj, dj2, gj, tj2, dj3, gj2, wq1, wq2, wq3, wq5, wq6, w, hdl, hBb2, hn2, wq4, hn3, hBb3]
    have e5 : markNdL ⟨id, ty, .mk k m t lv ns⟩ [.d (.int .i64 id), .d (.string ty), .d (.int .i64 k), .d (.int .i64 m), .d (.string t), X, Y] q = [.d (.int .i64 q), .d (.string (markT (q + 1))), .d (.int .i64 ((q + 2 : Nat) : Int)), .d (.int .i64 ((q + 3 : Nat) : Int)), .d (.string (markT (q + 4))), rowMap (fun cs => markLds lv cs (q + 5)) X, markNm Y (q + 5 + cntVs lv)] := by simp only [markNdL]
    have ev2 : varsL ((done ++ markNdL ⟨id, ty, .mk k m t lv ns⟩ [.d (.int .i64 id), .d (.string ty), .d (.int .i64 k), .d (.int .i64 m), .d (.string t), X, Y] q) ++ rest) = varsL done ++ ((rowMap (fun cs => markLds lv cs (q + 5)) X).vars ++ ((markNm Y (q + 5 + cntVs lv)).vars ++ varsL rest)) := by
      rw [e5]; simp [varsL_app, varsL, Ld.vars]
    refine ⟨⟨i + 1, hi2, done ++ markNdL ⟨id, ty, .mk k m t lv ns⟩ [.d (.int .i64 id), .d (.string ty), .d (.int .i64 k), .d (.int .i64 m), .d (.string t), X, Y] q, rest, q + (5 + cntVs lv + ns.length), by omega, by omega, ?_, ?_, hr2, by omega, ?_, ?_, ?_, ?_⟩, upTo_lt h5 (by simp) hi2⟩
    · rw [e5]; simp; omega
    · rw [← hm]; simp [markNdsL, cntN]
    · rw [e5]; simp [hdl]; omega
    · intro a c hac
      rw [ev2] at hac
      simp only [List.mem_append] at hac
      rcases hac with h | h | h | h
      · rw [out3 a (hin (a, c) (by simp [h])).2 (dY _ h), out2 (a, c) (hin (a, c) (by simp [h])).2 (hin (a, c) (by simp [h])).1 (dX _ h)]
        exact hh (a, c) (by simp [h])
      · have hx : a ∈ X.vars.map (fun p => p.1) := by rw [← hXi]; exact List.mem_map_of_mem h
        obtain ⟨p, hp, e⟩ := List.mem_map.1 hx
        rw [out3 a (by rw [← e]; exact (hin p (by simp [hp])).2) (fun hy => nd6 _ hx _ (by simp only [List.mem_append]; exact .inl hy) rfl)]
        exact hM.own _ h
      · exact hM3.own _ h
      · rw [out3 a (hin (a, c) (by simp [h])).2 (rY _ h), out2 (a, c) (hin (a, c) (by simp [h])).2 (hin (a, c) (by simp [h])).1 (rX _ h)]
        exact hh (a, c) (by simp [h])
    · rw [← hid]
      simp only [ids, ev, ev2, List.map_append, hXi, hYi]
    · intro x hx
      have hox := ho x hx
      refine ⟨fun h => ?_, fun h => ?_⟩
      · simp only [List.mem_cons, not_or] at h
        have hx1 : x ∉ X.vars.map (fun p => p.1) := fun h' => h.2 (by rw [← hid]; simp only [ids, ev, List.map_append, List.mem_append]; exact .inr (.inl h'))
        have hx2 : x ∉ Y.vars.map (fun p => p.1) := fun h' => h.2 (by rw [← hid]; simp only [ids, ev, List.map_append, List.mem_append]; exact .inr (.inr (.inl h')))
        rw [← hox.1 (by simp [h.1, h.2])]
        show S3.B x = _
        rw [out3 x hx hx2]
        exact out2 (x, []) hx h.1 hx1
      · rw [← hox.2 h]
        show S3.T x = _
        rw [hM3.T x (by simp; omega)]
        show S2.T x = _
        rw [hM.T x (by simp; omega)]
        rfl
  · have hi3 : i = l.length := by omega
    subst hi3
    rw [List.drop_eq_nil_of_le (by omega)] at hm hr hq
    have hr0 : rest = [] := by cases rest with
      | nil => rfl
      | cons x r => simp [shs, nodsSk] at hr
    subst hr0
    simp only [markNdsL, List.append_nil] at hm hh hid
    simp only [cntNs, Nat.add_zero] at hq
    subst hm
    simp [hB, h0, h1, h5, hBb, hn, hg, hmd, c]
    have hlt : ∀ p ∈ varsL (markNdsL l cs n), p.1 < S0.nx := fun p hp => by
      have : p.1 ∈ ids cs := by rw [← hid]; exact List.mem_map_of_mem hp
      obtain ⟨p', h1', h2'⟩ := List.mem_map.1 this
      rw [← h2']; exact hrg p' h1'
    obtain ⟨l1, l2⟩ := lt_lds _ hlt
    refine ⟨by omega, elder_old (bs := b :: ids cs) (ts := []) ho ?_ (by simp) ?_ (by simp) (fun x hx _ hl => ?_) (by simp)⟩
    · intro p hp
      rcases List.mem_cons.1 hp with rfl | hp
      · show S.B b = _
        rw [hBb]; simp
      · exact hh p hp
    · intro p hp
      rcases List.mem_cons.1 hp with rfl | hp
      · exact ⟨hb, l1⟩
      · exact ⟨hlt p hp, l2 p hp⟩
    · exfalso
      have hm : x ∈ ((b, svs (markNdsL l cs n)) :: varsL (markNdsL l cs n)).map (fun p => p.1) := by
        rcases List.mem_cons.1 hx with rfl | hx
        · simp
        · rw [← hid] at hx
          exact List.mem_cons_of_mem _ hx
      obtain ⟨p, hp, rfl⟩ := List.mem_map.1 hm
      have nd : (((b, svs (markNdsL l cs n)) :: varsL (markNdsL l cs n)).map (fun p => p.1)).Nodup := by
        simp only [List.map_cons, List.nodup_cons]
        simp only [ids] at hid
        rw [hid]; exact hnd
      rw [lookN_of nd hp] at hl; cases hl
end Go.Proofs.Ytghbkljdpikpdaa
