/- impl.copyWithin: a value in new memory. -/
import Derived.Test.YtghbkljdpikpdaaGc
set_option linter.unusedVariables false
set_option linter.unusedSimpArgs false
set_option maxRecDepth 100000
namespace Go.Proofs.Ytghbkljdpikpdaa
open Go.Sh
variable {gl : Nat → Option D}
/-- The lists around, as the program has them. -/
def chD : List (List Val × List D) → D
  | [] => .v (.pointer none)
  | (l, m) :: r => .pp (spanC l ++ [.ps m l.length, chD r]) 0
theorem At.app2 {S : St} {lo mid hi : Nat} {a b : List Ld} (ha : At S mid hi a) (hb : At S lo mid b) (h1 : lo ≤ mid) (h2 : mid ≤ hi) : At S lo hi (a ++ b) := by
  refine ⟨fun p hp => ?_, ?_, fun p hp => ?_⟩
  · rw [varsL_app] at hp
    rcases List.mem_append.1 hp with hp | hp
    · exact ha.has p hp
    · exact hb.has p hp
  · rw [varsL_app, List.map_append]
    refine List.nodup_append.2 ⟨ha.nodup, hb.nodup, fun x hx y hy e => ?_⟩
    obtain ⟨p, hp, rfl⟩ := List.mem_map.1 hx
    obtain ⟨q, hq, rfl⟩ := List.mem_map.1 hy
    have := ha.rng p hp
    have := hb.rng q hq
    omega
  · rw [varsL_app] at hp
    rcases List.mem_append.1 hp with hp | hp
    · have := ha.rng p hp; omega
    · have := hb.rng p hp; omega
@[simp] theorem chD_one (ch : List (List Val × List D)) : (SV.d (chD ch)).one = true := by
  cases ch with
  | nil => rfl
  | cons p r => rfl
@[simp] theorem chD_cells (ch : List (List Val × List D)) : (SV.d (chD ch)).cells = [.d (chD ch)] := by
  cases ch with
  | nil => rfl
  | cons p r => rfl
theorem frz_d' {B : Nat → Option (List SV)} (k : Nat) (x : D) : frz B (k + 1) (.d x) = some x := rfl
theorem frz_op' {B : Nat → Option (List SV)} {k b off : Nat} {cs : List SV} {ds : List D} (h : B b = some cs) (h' : mapO (frz B k) cs = some ds) : frz B (k + 1) (.op b off) = some (.pp ds off) := by
  show (match B b with | some cs => (mapO (frz B k) cs).map fun ds => D.pp ds off | none => none) = _
  rw [h]
  show (mapO (frz B k) cs).map _ = _
  rw [h']; rfl
theorem frz_os' {B : Nat → Option (List SV)} {k b off n : Nat} {cs : List SV} {ds : List D} (h : B b = some cs) (h' : mapO (frz B k) cs = some ds) : frz B (k + 1) (.os b off n) = some (.ps (ds.drop off) n) := by
  show (match B b with | some cs => (mapO (frz B k) cs).map fun ds : List D => D.ps (ds.drop off) n | none => none) = _
  rw [h]
  show (mapO (frz B k) cs).map _ = _
  rw [h']; rfl
theorem mapO_d' {B : Nat → Option (List SV)} (k : Nat) (cs : List D) : mapO (frz B (k + 1)) (cs.map .d) = some cs := by
  induction cs with
  | nil => rfl
  | cons x r ih => simp only [List.map_cons, mapO, frz_d', ih]
theorem frz_ag' {B : Nat → Option (List SV)} {k : Nat} {cs : List SV} {ds : List D} (h : mapO (frz B k) cs = some ds) : frz B (k + 1) (.ag cs) = some (.agg ds) := by
  show (mapO (frz B k) cs).map D.agg = _
  rw [h]; rfl
theorem mapO_cons' {α β : Type} {f : α → Option β} {x : α} {r : List α} {y : β} {ys : List β} (h : f x = some y) (h' : mapO f r = some ys) : mapO f (x :: r) = some (y :: ys) := by
  simp only [mapO, h, h']
theorem frz_chain {B : Nat → Option (List SV)} {u w : Nat} {l : List Val} {ch : List (List Val × List D)} {cs : List Ld} (hu : B u = some [.d (.pp (valsCells l) 0), .d (dI l.length), .os w 0 l.length, .d (chD ch)]) (hw : B w = some (svs cs)) (hv : ∀ p ∈ varsL cs, B p.1 = some p.2) (hne : l ≠ []) :
    frz B (depL (shs cs) + 3) (.op u 0) = some (chD ((l, dataL (shs cs)) :: ch)) := by
  have h1 := (frz_lds cs (depL (shs cs) + 1) hv (by omega)).1
  have h2 := frz_os' (off := 0) (n := l.length) hw h1
  have h3 := mapO_cons' (frz_d' (B := B) (depL (shs cs) + 1) (.pp (valsCells l) 0)) (mapO_cons' (frz_d' _ (dI l.length)) (mapO_cons' h2 (mapO_cons' (r := []) (frz_d' _ (chD ch)) rfl)))
  rw [frz_op' hu h3]
  simp [chD, spanC, if_neg hne]
abbrev zL : List Ld := [.d (.int .i64 0), .d (.int .i64 0), .d (.string ⟨#[]⟩), .nil, .nil]
theorem rowC_ld (cs : List Ld) (m : Nat) : rowC (svs cs) zV m = svs (cs ++ (List.replicate m zL).flatten) := by
  rw [rowC, svs_app]
  congr 1
  induction m with
  | zero => rfl
  | succ m ih => rw [List.replicate_succ, List.replicate_succ, List.flatten_cons, List.flatten_cons, svs_app, ih]; rfl
theorem zL_vars (m : Nat) : varsL (List.replicate m zL).flatten = [] := by
  induction m with
  | zero => rfl
  | succ m ih => rw [List.replicate_succ, List.flatten_cons, varsL_app, ih]; rfl
@[simp] theorem take_span (l : List Val) : ((spanC l).map SV.d).take 2 = (spanC l).map SV.d := List.take_of_length_le (by simp)
noncomputable def chMu (E : Env) (S : St) : Nat := match E 7 with | some (.d x) => SizeOf.sizeOf x | _ => 0
theorem chMu_lt {l : List Val} {m : List D} {r : List (List Val × List D)} {E E' : Env} {S S' : St} (h : E 7 = some (.d (chD ((l, m) :: r)))) (h' : E' 7 = some (.d (chD r))) : chMu E' S' < chMu E S := by
  unfold chMu
  rw [h, h']
  simp only [chD]
  have : SizeOf.sizeOf (chD r) < SizeOf.sizeOf (spanC l ++ [.ps m l.length, chD r]) := List.sizeOf_lt_of_mem (by simp)
  simp only [D.pp.sizeOf_spec]
  omega
set_option maxHeartbeats 4000000 in
theorem g_copyWithin (hcl : gl cleanAt ≠ none) (v : Val) (hv : Small v) (ch : List (List Val × List D)) (hch : ∀ p ∈ ch, SizeOf.sizeOf v < SizeOf.sizeOf p.1) : valF gl 79 false [v.d, chD ch] v := by
  match v, hv with
  | .mk k n t l ns, .mk ht hn hns hl hwf =>
    have ih : ∀ i (hi : i < l.length) (m : List D), valF gl 79 false [l[i].d, chD ((l, m) :: ch)] l[i] := fun i hi m =>
      have h1 := List.sizeOf_lt_of_mem (List.getElem_mem hi)
      g_copyWithin hcl l[i] (hwf _ (List.getElem_mem hi)) _ (fun p hp => by
        rcases List.mem_cons.1 hp with rfl | hp
        · exact h1
        · have := hch p hp
          simp only [Val.mk.sizeOf_spec] at this
          omega)
    have hap : ∀ p ∈ ch, p.1 ≠ l := fun p hp e => by
      have := hch p hp
      rw [e] at this
      simp only [Val.mk.sizeOf_spec] at this
      omega
    clear hch
    refine FCall.by_ (md := []) Try.func79 rfl (by kernel_rfl) (n := 76) Try.ntmps79 (by simp) (by decide) rfl ?_
    simp [Val.cells]
    refine ⟨DrawT.ol [((1, 2), 10), ((3, 2), 10), ((5, 2), 10), ((7, 2), 10)] (by kernel_rfl) (by simp), ?_⟩
    refine CallT.o (n := 40) [((1, 2), 8), ((3, 2), 8), ((5, 2), 8)] (g_copyTexts ns hn) (by first | rfl | (simp; done) | (simp; done)) (by kernel_rfl) (by kernel_rfl) (by simp [Eh.e]) (by first | (simp [Ar.a]; done) | (simp [Ar.a]; omega)) (fun B' hB' => by first | rfl | (simp; done) | (simp [hB']; done) | (simp [hB']; done)) ?_
    simp [ Val.cells]
    refine BrT.dec (fun c => ?_) (fun c => ?_)
    · subst c
      simp
      refine fin_ag (lo := 14) (cs := [.d (.int .i64 k), .d (.int .i64 n), .d (.string t), .nil] ++ canL 14 [skS false ns]) (.cons_d (.cons_d (.cons_d (.cons_nil (At.new ?_))))) ?_ ?_
      · intro b h1 h2
        ((try simp); (repeat first | rw [if_neg (by omega)] | rw [if_pos (by omega)]); (try (intro h; exfalso; omega)))
      · simp [shs_app, canL_shs, shs, Ld.sh, Val.sk]
      · simp [canL]
    · simp [c]
      repeat refine ⟨DrawT.mk (by kernel_rfl), ?_⟩
      refine CallT.p0 (p_spanOf l (by omega)) (by first | rfl | (simp; done) | (simp [c]; done)) (by first | rfl | (simp; done) | (simp; rfl)) ?_
      simp [c]
      obtain ⟨K, hK⟩ : ∃ K, cntL [skS false ns] = K := ⟨_, rfl⟩
      obtain ⟨q, hq⟩ : ∃ q, q = 14 + K + 4 + 3 := ⟨_, rfl⟩
      simp only [hK, ← hq]
      refine LoopT.round (fun E S => ∃ (rest : List (List Val × List D)), (∀ p ∈ rest, p.1 ≠ l) ∧ E 1 = some (.d (chD ch)) ∧ E 2 = some (.op 0 0) ∧ E 4 = some (.op 1 0) ∧ E 5 = some (.op 12 0) ∧ E 6 = some (.op q 0) ∧ E 7 = some (.d (chD rest)) ∧ S.B 0 = some ([.d (dI k), .d (dI n), .d (dS t), .d (valsD l), .d (namesD ns)]) ∧ S.B 1 = some (zV) ∧ S.B 12 = some ([.d (dI k), .d (dI n), .d (dS t), .fl [] 0, (Sk.can 14 (skS false ns)).sv]) ∧ S.B q = some ((spanC l).map .d) ∧ (At S 14 (14 + K) (canL 14 [skS false ns])) ∧ (q + 1 ≤ S.nx)) (chMu) ⟨ch, hap, by simp [c]; exact ⟨by ((try simp); (repeat first | rw [if_neg (by omega)] | rw [if_pos (by omega)]); (try (intro h; exfalso; omega))), by ((try simp); (repeat first | rw [if_neg (by omega)] | rw [if_pos (by omega)]); (try (intro h; exfalso; omega))), by ((try simp); (repeat first | rw [if_neg (by omega)] | rw [if_pos (by omega)]); (try (intro h; exfalso; omega))), hK ▸ At.new fun b h1 h2 => (by ((try simp); (repeat first | rw [if_neg (by omega)] | rw [if_pos (by omega)]); (try (intro h; exfalso; omega)))), by omega⟩⟩ ?_
      rintro E S hk ⟨rest, hr, h1, h2, h4, h5, h6, h7, hB0, hB1, hB12, hBq, ha, hx⟩
      have hn : S.n = 76 := by first | (simpa using hk.n) | (have hh := hk.n; simp [c] at hh; exact hh)
      have hg : S.gl = gl := by first | (simpa using hk.gl) | (have hh := hk.gl; simp [c] at hh; exact hh)
      have hmd : S.md = [] := by first | (simpa using hk.md) | (have hh := hk.md; simp [c] at hh; exact hh)
      simp [c, h1, h2, h4, h5, h6, h7, hB0, hB1, hB12, hBq, hn, hg, hmd]
      cases rest with
      | nil =>
        have n7 : ¬ S.nx = 7 := by omega
        have nq : ¬ q = S.nx + 2 + 3 := by omega
        have n12 : ¬ q = 12 := by omega
        have hsp : spanC l = [.pp (valsCells l) 0, dI l.length] := if_neg c
        simp [c, h1, h2, h4, h5, h6, h7, hB0, hB1, hB12, hBq, hn, hg, hmd, n7, nq, n12, hsp, chD]
        refine ⟨by omega, ?_⟩
        obtain ⟨w, hw⟩ : ∃ w, S.nx + 2 + 3 = w := ⟨_, rfl⟩
        obtain ⟨u, hu⟩ : ∃ u, S.nx + 2 + 6 + 5 = u := ⟨_, rfl⟩
        simp only [hw, hu]
        refine LoopT.round (fun E S => ∃ (i : Nat) (done : List Ld), (i ≤ l.length) ∧ E 4 = some (.op 1 0) ∧ E 5 = some (.op 12 0) ∧ E 8 = some (.op u 0) ∧ E 60 = some (.d (valsD l)) ∧ E 61 = some (.d (dI l.length)) ∧ E 62 = some (.d (dI i)) ∧ S.B 1 = some (zV) ∧ S.B 12 = some ([.d (dI k), .d (dI n), .d (dS t), .os w 0 l.length, (Sk.can 14 (skS false ns)).sv]) ∧ S.B u = some ([.d (.pp (valsCells l) 0), .d (dI l.length), .os w 0 l.length, .d (chD ch)]) ∧ S.B w = some (rowC (svs done) zV (l.length - i)) ∧ (At S 14 (14 + K) (canL 14 [skS false ns])) ∧ (shs done = valsSk false (l.take i)) ∧ (At S (u + 1) S.nx done) ∧ (u + 1 ≤ S.nx)) (upTo 62 l.length) ⟨0, [], by simp [c, h1, h2, h4, h5, h6, h7, hB0, hB1, hB12, hBq, hn, hg, hmd, n7, nq, n12, hsp]; exact ⟨by ((try simp); (repeat first | rw [if_neg (by omega)] | rw [if_pos (by omega)]); (try (intro h; exfalso; omega))), by omega, by rw [if_neg (by omega), if_neg (by omega)]; simp [rowC, madeS_zV], ha.keep (fun b h1 h2 => by ((try simp); (repeat first | rw [if_neg (by omega)] | rw [if_pos (by omega)]); (try (intro h; exfalso; omega)))), rfl, .nil, by omega⟩⟩ ?_
        rintro E S hk ⟨i, done, hi, h4, h5, h8, h60, h61, h62, hB1, hB12, hBu, hBw, ha, hd, hat, hx⟩
        have hn : S.n = 76 := by first | (simpa using hk.n) | (have hh := hk.n; simp [c, h1, h2, h4, h5, h6, h7, hB0, hB1, hB12, hBq, hn, hg, hmd, n7, nq, n12, hsp] at hh; exact hh)
        have hg : S.gl = gl := by first | (simpa using hk.gl) | (have hh := hk.gl; simp [c, h1, h2, h4, h5, h6, h7, hB0, hB1, hB12, hBq, hn, hg, hmd, n7, nq, n12, hsp] at hh; exact hh)
        have hmd : S.md = [] := by first | (simpa using hk.md) | (have hh := hk.md; simp [c, h1, h2, h4, h5, h6, h7, hB0, hB1, hB12, hBq, hn, hg, hmd, n7, nq, n12, hsp] at hh; exact hh)
        simp [c, h1, h2, h4, h5, h6, h7, hB0, hB1, hB12, hBq, hn, hg, hmd, n7, nq, n12, hsp, h4, h5, h8, h60, h61, h62, hB1, hB12, hBu, hBw, hn, hg, hmd]
        have w1 := wrap64 (n := (i : Int) + 1) (by omega) (by omega)
        have hA : (svs done).length = i * 5 := by rw [svs_len, ← shs_len, hd, valsSk_len, List.length_take]; congr 1; omega
        have hf := rowC_len (k := 5) (z := zV) rfl hA hi
        have nw : ∀ a, ¬ w = S.nx + a := fun a => by omega
        have nu : ∀ a, ¬ u = S.nx + a := fun a => by omega
        refine BrT.dec (fun c2 => ?_) (fun c2 => ?_)
        · have hi2 : i < l.length := by omega
          have hlen := valsCells_len l
          have hfit : i * 5 + 5 ≤ l.length * 5 := by omega
          have hnext := fun X => rowC_next (k := 5) (z := zV) (X := X) rfl hA hi2
          have n8 : ¬ S.nx = 8 := by omega
          simp [c, h1, h2, h4, h5, h6, h7, hB0, hB1, hB12, hBq, hn, hg, hmd, n7, nq, n12, hsp, h4, h5, h8, h60, h61, h62, hB1, hB12, hBu, hBw, hn, hg, hmd, c2, hi2, w1, hf, hlen, hfit, valsCells_at, n8, cells_len]
          refine ⟨DrawT.mk (by kernel_rfl), ?_⟩
          have nw2 : ∀ a b, ¬ w = S.nx + a + b := fun a b => by omega
          have nu2 : ∀ a b, ¬ u = S.nx + a + b := fun a b => by omega
          refine CallT.o (n := depL (shs (done ++ (List.replicate (l.length - i) zL).flatten)) + 3) [((1, 5), 5)] (ih i hi2 (dataL (shs (done ++ (List.replicate (l.length - i) zL).flatten)))) (by simp [c, h1, h2, h4, h5, h6, h7, hB0, hB1, hB12, hBq, hn, hg, hmd, n7, nq, n12, hsp, h4, h5, h8, h60, h61, h62, hB1, hB12, hBu, hBw, hn, hg, hmd, c2, hi2, w1, hf, hlen, hfit, valsCells_at, n8, cells_len, nw, nu, nw2, nu2]) (by kernel_rfl) (by kernel_rfl) (by simp [c, h1, h2, h4, h5, h6, h7, hB0, hB1, hB12, hBq, hn, hg, hmd, n7, nq, n12, hsp, h4, h5, h8, h60, h61, h62, hB1, hB12, hBu, hBw, hn, hg, hmd, c2, hi2, w1, hf, hlen, hfit, valsCells_at, n8, cells_len, nw, nu, nw2, nu2, Eh.e]; omega) (by simp [Ar.a]) (fun B' hB' => ?_) ?_
          · refine mapO_cons' (frz_ag' (mapO_d' _ _)) (mapO_cons' (r := []) (frz_chain (w := w) ?_ ?_ ?_ c) rfl)
            · rw [hB' u (by omega)]; ((try simp); (repeat first | rw [if_neg (by omega)] | rw [if_pos (by omega)]); (try (intro h; exfalso; omega))); exact hBu
            · rw [hB' w (by omega), ← rowC_ld]; ((try simp); (repeat first | rw [if_neg (by omega)] | rw [if_pos (by omega)]); (try (intro h; exfalso; omega))); exact hBw
            · intro p hp
              rw [varsL_app, zL_vars, List.append_nil] at hp
              have := hat.rng p hp
              rw [hB' p.1 (by omega)]; ((try simp); (repeat first | rw [if_neg (by omega)] | rw [if_pos (by omega)]); (try (intro h; exfalso; omega))); exact hat.has p hp
          have nwl : w < S.nx + 1 + 6 + 8 := by omega
          simp [c, h1, h2, h4, h5, h6, h7, hB0, hB1, hB12, hBq, hn, hg, hmd, n7, nq, n12, hsp, h4, h5, h8, h60, h61, h62, hB1, hB12, hBu, hBw, hn, hg, hmd, c2, hi2, w1, hf, hlen, hfit, valsCells_at, n8, cells_len, nw, nu, nw2, nu2, nwl]
          refine ⟨⟨i + 1, hi2, by omega, fun e => absurd e (by omega), fun e => absurd e (by omega), by ((try simp); (repeat first | rw [if_neg (by omega)] | rw [if_pos (by omega)]); (try (intro h; exfalso; omega))), done ++ canL (S.nx + 1 + 6 + 8) (Val.sk false l[i]), ?_, ?_, ?_, ?_, by omega⟩, upTo_lt h62 (by simp) hi2⟩
          · rw [svs_app, ← hnext]; simp
          · exact ha.keep fun b h1 h2 => by ((try simp); (repeat first | rw [if_neg (by omega)] | rw [if_pos (by omega)]); (try (intro h; exfalso; omega)))
          · rw [shs_app, hd, canL_shs, List.take_succ_eq_append_getElem hi2, valsSk_app]; simp [valsSk]
          · refine At.app (mid := S.nx + 1 + 6 + 8) ?_ ?_ (by omega) (by omega)
            · exact (hat.keep fun b h1 h2 => by ((try simp); (repeat first | rw [if_neg (by omega)] | rw [if_pos (by omega)]); (try (intro h; exfalso; omega)))).le (by omega) (by omega)
            · exact (At.new fun b h1 h2 => by ((try simp); (repeat first | rw [if_neg (by omega)] | rw [if_pos (by omega)]); (try (intro h; exfalso; omega)))).le (by omega) (by omega)
        · have hi3 : i = l.length := by omega
          subst hi3
          rw [List.take_length] at hd
          rw [rowC_all] at hBw
          simp [c, h1, h2, h4, h5, h6, h7, hB0, hB1, hB12, hBq, hn, hg, hmd, n7, nq, n12, hsp, h4, h5, h8, h60, h61, h62, hB1, hB12, hBu, hBw, hn, hg, hmd, c2]
          refine fin_ag (lo := 14) (hi := S.nx) (cs := [.d (.int .i64 k), .d (.int .i64 n), .d (.string t)] ++ ([.row none w l.length done] ++ canL 14 [skS false ns])) (.cons_d (.cons_d (.cons_d (.app2 (mid := 14 + K) (.row (by ((try simp); (repeat first | rw [if_neg (by omega)] | rw [if_pos (by omega)]); (try (intro h; exfalso; omega))); exact hBw) (by omega) (by omega) ((hat.keep fun b h1 h2 => by ((try simp); (repeat first | rw [if_neg (by omega)] | rw [if_pos (by omega)]); (try (intro h; exfalso; omega)))).le (by omega) (by omega)) (fun p hp => by have := hat.rng p hp; omega)) (ha.keep fun b h1 h2 => by ((try simp); (repeat first | rw [if_neg (by omega)] | rw [if_pos (by omega)]); (try (intro h; exfalso; omega)))) (by omega) (by omega))))) ?_ ?_
          · have h0 : l.length ≠ 0 := fun e => c (List.eq_nil_of_length_eq_zero e)
            simp [shs_app, canL_shs, shs, Ld.sh, Val.sk, hd, skR_pos h0]
          · simp [canL]
      | cons p r =>
        obtain ⟨pl, pm⟩ := p
        simp [c, h1, h2, h4, h5, h6, h7, hB0, hB1, hB12, hBq, hn, hg, hmd, chD]
        refine ⟨DrawT.mk (by kernel_rfl), OpT_apart rfl hcl (x := .agg (spanC pl)) (y := .agg (spanC l)) rfl (by simp) (by kernel_rfl) (span_key (by kernel_rfl) _) (span_key (by kernel_rfl) _) (span_apart (hr (pl, pm) (by simp))) ?_⟩
        simp [c, h1, h2, h4, h5, h6, h7, hB0, hB1, hB12, hBq, hn, hg, hmd, chD]
        exact ⟨⟨r, fun a b hab => hr (a, b) (by simp [hab]), rfl, ha.mono rfl, by omega⟩, chMu_lt h7 (by simp)⟩
  termination_by SizeOf.sizeOf v
  decreasing_by
  simp only [Val.mk.sizeOf_spec]
  omega
end Go.Proofs.Ytghbkljdpikpdaa
